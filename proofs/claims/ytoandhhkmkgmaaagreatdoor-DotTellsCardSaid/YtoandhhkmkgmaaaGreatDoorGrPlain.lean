/- Graphs, plain: lists that rise, what is wrong with a graph, its rows. -/
import Derived.Test.YtoandhhkmkgmaaaGreatDoorName9
import Derived.Test.YtoandhhkmkgmaaaGreatDoorBits1
import Derived.Test.YtoandhhkmkgmaaaGreatDoorBase
namespace Go.Proofs.YtoandhhkmkgmaaaGreatDoor

/-- The place i of a list and the one behind it are in order. -/
def stepB {α : Type} (lt : α → α → Bool) (l : List α) (i : Nat) : Bool := match l[i]?, l[i + 1]? with
  | some a, some b => lt a b
  | _, _ => true
def risesB {α : Type} (lt : α → α → Bool) (l : List α) : Bool := (List.range (l.length - 1)).all (stepB lt l)
section
variable {α : Type} {lt : α → α → Bool} {l : List α}
theorem rises_yes (h : ∀ i, i + 1 < l.length → stepB lt l i = true) : risesB lt l = true := by
  unfold risesB
  rw [List.all_eq_true]
  intro i hi
  exact h i (by have := List.mem_range.1 hi; omega)
theorem rises_no {i : Nat} (hi : i + 1 < l.length) (h : stepB lt l i = false) : risesB lt l = false := by
  unfold risesB
  rw [List.all_eq_false]
  exact ⟨i, List.mem_range.2 (by omega), by simp [h]⟩
theorem rises_at (h : risesB lt l = true) {i : Nat} (hi : i + 1 < l.length) : stepB lt l i = true := List.all_eq_true.1 h i (List.mem_range.2 (by omega))
theorem stepB_at {i : Nat} {a b : α} (ha : l[i]? = some a) (hb : l[i + 1]? = some b) : stepB lt l i = lt a b := by unfold stepB; rw [ha, hb]
theorem rises_lt (tr : ∀ a b c, lt a b = true → lt b c = true → lt a c = true) (h : risesB lt l = true) : ∀ (d i : Nat) (a b : α), l[i]? = some a → l[i + d + 1]? = some b → lt a b = true
  | 0, i, a, b, ha, hb => by
    have hi := (List.getElem?_eq_some_iff.1 hb).1
    have := rises_at h (i := i) (by omega)
    rwa [stepB_at ha (by simpa using hb)] at this
  | d + 1, i, a, b, ha, hb => by
    have hi := (List.getElem?_eq_some_iff.1 hb).1
    have hc : l[i + d + 1]? = some (l[i + d + 1]'(by omega)) := List.getElem?_eq_getElem (by omega)
    have h1 := rises_lt tr h d i a _ ha hc
    have h2 := rises_at h (i := i + d + 1) (by omega)
    rw [stepB_at hc (by rw [← hb]; congr 1)] at h2
    exact tr _ _ _ h1 h2
theorem rises_pairwise (tr : ∀ a b c, lt a b = true → lt b c = true → lt a c = true) (h : risesB lt l = true) : l.Pairwise (fun a b => lt a b = true) := by
  rw [List.pairwise_iff_getElem]
  intro i j hi hj hij
  refine rises_lt tr h (j - i - 1) i _ _ (List.getElem?_eq_getElem hi) ?_
  rw [show i + (j - i - 1) + 1 = j by omega]
  exact List.getElem?_eq_getElem hj
end
theorem rises_up {l : List (List UInt8)} (h : risesB ltS l = true) : Up l := by
  have := rises_pairwise (lt := ltS) (fun a b c h1 h2 => by
    unfold ltS at *
    rw [decide_eq_true_eq] at *
    exact slt_trans h1 h2) h
  exact this.imp (fun h => by unfold ltS at h; exact of_decide_eq_true h)
theorem up_rises {l : List (List UInt8)} (h : Up l) : risesB ltS l = true := by
  refine rises_yes fun i hi => ?_
  have ha : l[i]? = some (l[i]'(by omega)) := List.getElem?_eq_getElem (by omega)
  have hb : l[i + 1]? = some (l[i + 1]'hi) := List.getElem?_eq_getElem hi
  rw [stepB_at ha hb]
  unfold ltS
  rw [decide_eq_true_eq]
  exact List.pairwise_iff_getElem.1 h i (i + 1) (by omega) hi (by omega)

/-! ### Edges -/
abbrev EdgeT := Int × Int
def edgeLt (a b : EdgeT) : Bool := decide (a.1 < b.1 ∨ a.1 = b.1 ∧ a.2 < b.2)
def edgeOut (n : Nat) (e : EdgeT) : Bool := decide (e.1 < 0 ∨ (n : Int) ≤ e.1 ∨ e.2 < 0 ∨ (n : Int) ≤ e.2)
theorem edgeLt_trans (a b c : EdgeT) (h1 : edgeLt a b = true) (h2 : edgeLt b c = true) : edgeLt a c = true := by
  unfold edgeLt at *
  rw [decide_eq_true_eq] at *
  omega
def grErr (N : List (List UInt8)) (E : List EdgeT) (p m : Nat) : Int :=
  if 64 < N.length then 2 else if N.all goodName = false then 3 else if risesB ltS N = false then 3 else if E.any (edgeOut N.length) = true then 4 else if risesB edgeLt E = false then 3 else if minus (p ||| m) (upTo N.length) ≠ 0 then 4 else 0
theorem gr_ok {N : List (List UInt8)} {E : List EdgeT} {p m : Nat} (h : grErr N E p m = 0) : N.length ≤ 64 ∧ N.all goodName = true ∧ risesB ltS N = true ∧ E.any (edgeOut N.length) = false ∧ risesB edgeLt E = true ∧ minus (p ||| m) (upTo N.length) = 0 := by
  unfold grErr at h
  by_cases h1 : 64 < N.length
  · rw [if_pos h1] at h; cases h
  rw [if_neg h1] at h
  by_cases h2 : N.all goodName = false
  · rw [if_pos h2] at h; cases h
  rw [if_neg h2] at h
  by_cases h3 : risesB ltS N = false
  · rw [if_pos h3] at h; cases h
  rw [if_neg h3] at h
  by_cases h4 : E.any (edgeOut N.length) = true
  · rw [if_pos h4] at h; cases h
  rw [if_neg h4] at h
  by_cases h5 : risesB edgeLt E = false
  · rw [if_pos h5] at h; cases h
  rw [if_neg h5] at h
  by_cases h6 : minus (p ||| m) (upTo N.length) ≠ 0
  · rw [if_pos h6] at h; cases h
  exact ⟨by omega, by simpa using h2, by simpa using h3, by simpa using h4, by simpa using h5, Classical.byContradiction h6⟩

/-! ### Rows -/
def edgeIn (r : List Nat) (e : EdgeT) : List Nat := r.set e.1.toNat (addN (rowAt r e.1.toNat) e.2.toNat)
def rowsG (n : Nat) (E : List EdgeT) : List Nat := E.foldl edgeIn (List.replicate n 0)
theorem edgeIn_len (r : List Nat) (e : EdgeT) : (edgeIn r e).length = r.length := by unfold edgeIn; rw [List.length_set]
theorem rowsG_snoc (n : Nat) (E : List EdgeT) (e : EdgeT) : rowsG n (E ++ [e]) = edgeIn (rowsG n E) e := by unfold rowsG; rw [List.foldl_append]; rfl
theorem foldIn_len (E : List EdgeT) : ∀ r : List Nat, (E.foldl edgeIn r).length = r.length := by
  induction E with
  | nil => intro r; rfl
  | cons e E ih => intro r; rw [List.foldl_cons, ih, edgeIn_len]
theorem rowsG_len (n : Nat) (E : List EdgeT) : (rowsG n E).length = n := by unfold rowsG; rw [foldIn_len, List.length_replicate]
theorem rowAt_set (r : List Nat) (i j v : Nat) (hi : i < r.length) : rowAt (r.set i v) j = if i = j then v else rowAt r j := by
  unfold rowAt
  rw [List.getElem?_set]
  by_cases h : i = j
  · subst h; rw [if_pos rfl, if_pos hi, if_pos rfl]; rfl
  · rw [if_neg h, if_neg h]
theorem edgeIn_bit {r : List Nat} {e : EdgeT} (he : edgeOut r.length e = false) (i j : Nat) : (rowAt (edgeIn r e) i).testBit j = true ↔ (rowAt r i).testBit j = true ∨ ((i : Int), (j : Int)) = e := by
  unfold edgeOut at he
  rw [decide_eq_false_iff_not] at he
  obtain ⟨a, b⟩ := e
  simp only at he
  have ha : (a.toNat : Int) = a := by omega
  have hb : (b.toNat : Int) = b := by omega
  unfold edgeIn
  rw [rowAt_set _ _ _ _ (by simp only; omega)]
  simp only
  by_cases h : a.toNat = i
  · subst h
    rw [if_pos rfl]
    unfold addN
    rw [or_bit, Bool.or_eq_true, decide_eq_true_eq]
    constructor
    · rintro (h | h)
      · exact .inl h
      · subst h; exact .inr (by rw [ha, hb])
    · rintro (h | h)
      · exact .inl h
      · injection h with h1 h2
        exact .inr (by omega)
  · rw [if_neg h]
    constructor
    · exact .inl
    · rintro (h' | h')
      · exact h'
      · injection h' with h1 h2
        exact absurd (by omega) h
theorem foldIn_bit (i j : Nat) : ∀ (E : List EdgeT) (r : List Nat), E.any (edgeOut r.length) = false → ((rowAt (E.foldl edgeIn r) i).testBit j = true ↔ (rowAt r i).testBit j = true ∨ ((i : Int), (j : Int)) ∈ E)
  | [], r, _ => by simp
  | e :: E, r, h => by
    rw [List.any_cons, Bool.or_eq_false_iff] at h
    rw [List.foldl_cons, foldIn_bit i j E (edgeIn r e) (by rw [edgeIn_len]; exact h.2), edgeIn_bit h.1, List.mem_cons, or_assoc]
theorem rowsG_bit {n : Nat} {E : List EdgeT} (h : E.any (edgeOut n) = false) (i j : Nat) : (rowAt (rowsG n E) i).testBit j = true ↔ ((i : Int), (j : Int)) ∈ E := by
  unfold rowsG
  rw [foldIn_bit i j E _ (by rw [List.length_replicate]; exact h)]
  have : rowAt (List.replicate n 0) i = 0 := by
    unfold rowAt
    rw [List.getElem?_replicate]
    split <;> rfl
  rw [this]
  simp
theorem edgeG_in {n : Nat} {E : List EdgeT} (h : E.any (edgeOut n) = false) {e : EdgeT} (he : e ∈ E) : 0 ≤ e.1 ∧ e.1 < n ∧ 0 ≤ e.2 ∧ e.2 < n := by
  have := List.any_eq_false.1 h e he
  unfold edgeOut at this
  rw [decide_eq_true_eq] at this
  omega
theorem rowsG_good {n : Nat} {E : List EdgeT} (hn : n ≤ 64) (h : E.any (edgeOut n) = false) : Good (rowsG n E) := by
  refine ⟨by rw [rowsG_len]; exact hn, fun i j hij => ?_⟩
  have := edgeG_in h ((rowsG_bit h i j).1 hij)
  rw [rowsG_len]
  simp only at this
  omega
end Go.Proofs.YtoandhhkmkgmaaaGreatDoor
/- Slices of pairs of numbers (edges), as lists: their cells in a row. No condition. -/
namespace Go.Proofs.YtoandhhkmkgmaaaGreatDoor
open Go.RowKit

/-- The cells of a list of pairs. -/
def eV (E : List (Int × Int)) : List Value := E.flatMap fun e => [.int .i64 e.1, .int .i64 e.2]
theorem eV_len : ∀ E : List (Int × Int), (eV E).length = 2 * E.length
  | [] => rfl
  | e :: E => by
    have := eV_len E
    unfold eV at *
    rw [List.flatMap_cons, List.length_append, this, List.length_cons]
    simp
    omega
theorem eV_at : ∀ {E : List (Int × Int)} {k : Nat} {e : Int × Int}, E[k]? = some e → (eV E)[2 * k]? = some (.int .i64 e.1) ∧ (eV E)[2 * k + 1]? = some (.int .i64 e.2)
  | [], k, e, h => by simp at h
  | x :: E, 0, e, h => by
    simp at h
    subst h
    exact ⟨rfl, rfl⟩
  | x :: E, k + 1, e, h => by
    have ih := eV_at (E := E) (k := k) (by simpa using h)
    unfold eV at *
    rw [List.flatMap_cons, show 2 * (k + 1) = 2 * k + 1 + 1 by omega]
    exact ⟨ih.1, ih.2⟩
theorem eV_snoc (E : List (Int × Int)) (e : Int × Int) : eV (E ++ [e]) = eV E ++ [.int .i64 e.1, .int .i64 e.2] := by unfold eV; rw [List.flatMap_append]; rfl
/-- An edge that is read. -/
theorem Rd.edge {w : World} {A : Option Addr} {E : List (Int × Int)} (h : Rd w A (eV E)) {k : Nat} {e : Int × Int} (hk : E[k]? = some e) :
    ∃ b off, A = some ⟨b, off, none⟩ ∧ w.cell? ⟨b, off + k * 2, none⟩ = some (.int .i64 e.1) ∧ w.cell? ⟨b, off + k * 2 + 1, none⟩ = some (.int .i64 e.2) := by
  have hl := (List.getElem?_eq_some_iff.1 hk).1
  obtain ⟨b, off, rfl, _, hc⟩ := h (by rw [eV_len]; omega)
  obtain ⟨h1, h2⟩ := eV_at hk
  rw [Nat.mul_comm 2 k] at h1 h2
  exact ⟨b, off, rfl, hc _ _ h1, by rw [Nat.add_assoc]; exact hc _ _ h2⟩
/-- A row of cells, as a list that is read. -/
theorem rd_of_cells {W : World} {a : Addr} {len : Nat} {V : Nat → Value} {xs : List Value} (hl : xs.length = len) (hV : ∀ i, i < len → xs[i]? = some (V i)) (hc : ∀ i, i < len → W.cell? (a.add i) = some (V i)) : Rd W (some a) xs := by
  intro hpos
  obtain ⟨b, off, ext⟩ := a
  have h0 := hc 0 (by omega)
  have hext : ext = none := by simpa [Addr.add] using World.cell?_spot h0
  subst hext
  have hat : ∀ i, i < len → W.cell? ⟨b, off + i, none⟩ = some (V i) := fun i hi => by
    have := hc i hi
    unfold Addr.add at this
    by_cases hz : i = 0
    · subst hz; simpa using this
    · simpa [hz] using this
  refine ⟨b, off, rfl, lt_of_cell' (hat 0 (by omega)), fun j u hu => ?_⟩
  have hj : j < len := by rw [← hl]; exact (List.getElem?_eq_some_iff.1 hu).1
  rw [hV j hj] at hu
  injection hu with hu
  subst hu
  exact hat j hj
/-- A family of values, as a list of what they stand for. -/
theorem fam_list {α : Type} {q : Nat → α → Prop} : ∀ (len : Nat), (∀ i, i < len → ∃ x, q i x) → ∃ l : List α, l.length = len ∧ ∀ i, i < len → ∃ x, l[i]? = some x ∧ q i x
  | 0, _ => ⟨[], rfl, fun i hi => absurd hi (Nat.not_lt_zero _)⟩
  | k + 1, h => by
    obtain ⟨l, hl1, hl2⟩ := fam_list k (fun i hi => h i (by omega))
    obtain ⟨x, hx⟩ := h k (by omega)
    refine ⟨l ++ [x], by simp [hl1], fun i hi => ?_⟩
    rcases Nat.lt_or_ge i k with h1 | h1
    · obtain ⟨y, hy1, hy2⟩ := hl2 i h1
      exact ⟨y, by rw [List.getElem?_append_left (by omega)]; exact hy1, hy2⟩
    · obtain rfl : i = k := by omega
      exact ⟨x, by rw [List.getElem?_append_right (by omega), hl1]; simp, hx⟩
theorem cell_keep {w w' : World} {B o : Nat} {v : Value} (h : w.cell? ⟨B, o, none⟩ = some v) (hb : Below w.heap.size w w') : w'.cell? ⟨B, o, none⟩ = some v := (hb.cell (p := ⟨B, o, none⟩) (lt_of_cell' h)).trans h
end Go.Proofs.YtoandhhkmkgmaaaGreatDoor
