/- Rows closed, plain; chains of a pairing; those apart. -/
import Derived.Test.YtonmkmghpiagjaaDoorOrdPlain
import Derived.Test.YtonmkmghpiagjaaDoorReach5
namespace Go.Proofs.YtonmkmghpiagjaaDoor

/-! ### Rows closed -/
theorem iter_fix {l : List Nat} (hg : Good l) {s : Nat} (hs : InRows l s) : iterR l s 66 = iterR l s 65 := by
  have h : ∃ k, k ≤ 65 ∧ iterR l s (k + 1) = iterR l s k := by
    apply Classical.byContradiction
    intro hno
    have hgrow : ∀ k, k ≤ 66 → k ≤ (nums (iterR l s k)).length := by
      intro k
      induction k with
      | zero => intro _; exact Nat.zero_le _
      | succ k ih =>
        intro hk
        have h1 := ih (by omega)
        have h2 := iterR_grows hg hs k (fun e => hno ⟨k, by omega, e⟩)
        omega
    have h1 := hgrow 66 (Nat.le_refl _)
    have h2 := nums_len (iterR l s 66)
    omega
  obtain ⟨k, hk, he⟩ := h
  rw [iterR_stable l s k he 66 (by omega), iterR_stable l s k he 65 hk]
theorem iter_start (l : List Nat) (s j : Nat) (h : s.testBit j = true) : ∀ k, (iterR l s k).testBit j = true
  | 0 => h
  | k + 1 => iterR_sub l s k j (iter_start l s j h k)
theorem closed_row (l : List Nat) (i : Nat) (hi : i < l.length) : rowAt (closed l) i = iterR l (rowAt l i) 65 := by
  rw [rowAt_closed l i hi]; rfl
theorem closed_base {l : List Nat} {i j : Nat} (hi : i < l.length) (h : (rowAt l i).testBit j = true) : (rowAt (closed l) i).testBit j = true := by
  rw [closed_row l i hi]
  exact iter_start l _ j h 65
theorem closed_lt {l : List Nat} {i j : Nat} (h : (rowAt (closed l) i).testBit j = true) : i < l.length := by
  apply Classical.byContradiction
  intro hi
  rw [rowAt_ge (by rw [closed_len]; omega)] at h
  simp at h
theorem closed_in {l : List Nat} (hg : Good l) {i j : Nat} (h : (rowAt (closed l) i).testBit j = true) : j < l.length := by
  rw [closed_row l i (closed_lt h)] at h
  exact iterR_in hg (fun j hj => hg.2 i j hj) 65 j h
theorem closed_good {l : List Nat} (hg : Good l) : Good (closed l) := ⟨by rw [closed_len]; exact hg.1, fun i j h => by rw [closed_len]; exact closed_in hg h⟩
theorem closed_step {l : List Nat} (hg : Good l) {i m j : Nat} (h : (rowAt (closed l) i).testBit m = true) (hj : (rowAt l m).testBit j = true) : (rowAt (closed l) i).testBit j = true := by
  have hi := closed_lt h
  rw [closed_row l i hi] at h ⊢
  rw [← iter_fix hg (fun j hj => hg.2 i j hj)]
  exact (stepR_bit l _ j).2 (.inr ⟨m, iterR_in hg (fun j hj => hg.2 i j hj) 65 m h, h, hj⟩)
theorem closed_trans {l : List Nat} (hg : Good l) {i m j : Nat} (h : (rowAt (closed l) i).testBit m = true) (hj : (rowAt (closed l) m).testBit j = true) : (rowAt (closed l) i).testBit j = true := by
  rw [closed_row l m (closed_lt hj)] at hj
  have key : ∀ k q, (iterR l (rowAt l m) k).testBit q = true → (rowAt (closed l) i).testBit q = true := by
    intro k
    induction k with
    | zero => exact fun q hq => closed_step hg h hq
    | succ k ih =>
      intro q hq
      rcases (stepR_bit l _ q).1 hq with h1 | ⟨x, _, h1, h2⟩
      · exact ih q h1
      · exact closed_step hg (ih x h1) h2
  exact key 65 j hj
theorem closed_before {l : List Nat} (hg : Good l) {p i j : Nat} (hp : (ordL l)[p]? = some i) (h : (rowAt (closed l) i).testBit j = true) : j ∈ (ordL l).take p := by
  rw [closed_row l i (closed_lt h)] at h
  have key : ∀ k q, (iterR l (rowAt l i) k).testBit q = true → q ∈ (ordL l).take p := by
    intro k
    induction k with
    | zero => exact fun q hq => (ordL_inv hg).before p i hp q hq
    | succ k ih =>
      intro q hq
      rcases (stepR_bit l _ q).1 hq with h1 | ⟨x, _, h1, h2⟩
      · exact ih q h1
      · obtain ⟨r, hr, hr2⟩ := List.mem_take_iff_getElem.1 (ih x h1)
        have hr' : r < min p (ordL l).length := hr
        have := (ordL_inv hg).before r x (by rw [List.getElem?_eq_getElem (show r < (ordL l).length by omega)]; exact congrArg some hr2) q h2
        exact List.take_subset_take_left _ (by omega) this
  exact key 65 j h
/-- A number of which the place in the order is below p. -/
def PosLt (l : List Nat) (p i : Nat) : Prop := i ∈ (ordL l).take p
theorem pos_next {l : List Nat} (hg : Good l) {p i j : Nat} (h : PosLt l (p + 1) i) (hj : (rowAt (closed l) i).testBit j = true) : PosLt l p j := by
  obtain ⟨r, hr, hr2⟩ := List.mem_take_iff_getElem.1 h
  have hr' : r < min (p + 1) (ordL l).length := hr
  have := closed_before hg (p := r) (i := i) (by rw [List.getElem?_eq_getElem (show r < (ordL l).length by omega)]; exact congrArg some hr2) hj
  exact List.take_subset_take_left _ (by omega) this
theorem pos_zero {l : List Nat} {i : Nat} : ¬ PosLt l 0 i := fun h => by unfold PosLt at h; simp at h
theorem closed_irrefl {l : List Nat} (hg : Good l) {i j : Nat} (hi : i ∈ ordL l) (hij : (rowAt (closed l) i).testBit j = true) : i ≠ j := fun e => by
  subst e
  have : ∀ p, ¬ PosLt l p i := by
    intro p
    induction p with
    | zero => exact pos_zero
    | succ p ih => exact fun h => ih (pos_next hg h hij)
  exact this (ordL l).length (by unfold PosLt; rw [List.take_length]; exact hi)

/-! ### Chains -/
/-- From a number on, by those that stand right behind. -/
def chainF (nx : Nat → Int) : Nat → Int → List Nat
  | 0, _ => []
  | f + 1, k => if k < 0 then [] else k.toNat :: chainF nx f (nx k.toNat)
theorem chainF_neg (nx : Nat → Int) (f : Nat) {k : Int} (h : k < 0) : chainF nx f k = [] := by
  cases f with
  | zero => rfl
  | succ f => unfold chainF; rw [if_pos h]
theorem chainF_cons (nx : Nat → Int) (f k : Nat) : chainF nx (f + 1) (k : Int) = k :: chainF nx f (nx k) := by
  show (if (k : Int) < 0 then [] else (k : Int).toNat :: chainF nx f (nx (k : Int).toNat)) = _
  rw [if_neg (by omega), Int.toNat_natCast]
/-- What a walk along a chain has. -/
def ChainRel (l : List Nat) (nx : Nat → Int) (n i : Nat) (done : List Nat) (cur : Int) (f : Nat) : Prop :=
  done ++ chainF nx f cur = chainF nx n i ∧ done.length + f = n ∧ -1 ≤ cur ∧ ∀ k : Nat, cur = (k : Int) → k < l.length ∧ PosLt l f k
theorem chainRel_start {l : List Nat} (hg : Good l) (hr : ordR l = 0) {nx : Nat → Int} {i : Nat} (hi : i < l.length) : ChainRel l nx l.length i [] (i : Int) l.length := by
  refine ⟨rfl, by simp, by omega, fun k hk => ?_⟩
  obtain rfl : k = i := by omega
  refine ⟨hi, ?_⟩
  unfold PosLt
  rw [List.take_of_length_le (ord_len hg)]
  have := (ordL_inv hg).mem k
  rw [show (ordL l, ordR l).1 = ordL l from rfl, show (ordL l, ordR l).2 = ordR l from rfl, hr] at this
  rw [this]
  simp [hi]
theorem chainRel_next {l : List Nat} (hg : Good l) {nx ah : Nat → Int} {i k f : Nat} {done : List Nat} (hp : PInv (closed l) l.length nx ah (-1)) (h : ChainRel l nx l.length i done (k : Int) f) :
    ∃ f', f = f' + 1 ∧ ChainRel l nx l.length i (done ++ [k]) (nx k) f' := by
  obtain ⟨h1, h2, h3, h4⟩ := h
  obtain ⟨hk, hpos⟩ := h4 k rfl
  cases f with
  | zero => exact absurd hpos pos_zero
  | succ f =>
    rw [chainF_cons] at h1
    refine ⟨f, rfl, by rw [List.append_assoc]; exact h1, by simp; omega, hp.nx_lo k hk, fun j hj => ?_⟩
    obtain ⟨a1, a2, _⟩ := hp.nx_ok k j hk hj
    exact ⟨a1, pos_next hg hpos a2⟩
theorem chainRel_end {l : List Nat} {nx : Nat → Int} {n i f : Nat} {done : List Nat} {cur : Int} (h : ChainRel l nx n i done cur f) (hc : cur < 0) : done = chainF nx n i := by
  have := h.1
  rw [chainF_neg nx f hc, List.append_nil] at this
  exact this
/-- Those that stand at the head of a chain, below k. -/
def heads (ah : Nat → Int) (k : Nat) : List Nat := (List.range k).filter fun i => decide (ah i < 0)
theorem heads_snoc (ah : Nat → Int) (k : Nat) : heads ah (k + 1) = heads ah k ++ if ah k < 0 then [k] else [] := by
  unfold heads
  rw [List.range_succ, List.filter_append]
  congr 1
  by_cases h : ah k < 0 <;> simp [h]
/-- All chains. -/
def chainsOf (nx ah : Nat → Int) (n k : Nat) : List (List Nat) := (heads ah k).map fun i : Nat => chainF nx n (i : Int)
end Go.Proofs.YtonmkmghpiagjaaDoor
