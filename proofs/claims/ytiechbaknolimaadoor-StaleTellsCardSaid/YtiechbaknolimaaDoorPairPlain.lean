/- Pairing of numbers with those below, plain: what find does as a relation; it is a function; what it keeps; those that cannot be paired. -/
import Derived.Test.YtiechbaknolimaaDoorOrdPlain
namespace Go.Proofs.YtiechbaknolimaaDoor

/-- A pairing so far: who stands behind, who ahead (-1: none); who has been seen. -/
structure PSt where
  nx : Nat → Int
  ah : Nat → Int
  seen : Nat
def setF (f : Nat → Int) (i : Nat) (v : Int) : Nat → Int := fun x => if x = i then v else f x
theorem setF_self (f : Nat → Int) (i : Nat) (v : Int) : setF f i v i = v := by unfold setF; simp
theorem setF_other {f : Nat → Int} {i x : Nat} {v : Int} (h : x ≠ i) : setF f i v x = f x := by unfold setF; simp [h]
/-- What is left to see of a row. -/
def toSee (R : List Nat) (i s : Nat) : Nat := minus (rowAt R i) s
/-- What find does. -/
inductive Find (R : List Nat) : Nat → PSt → Bool → PSt → Prop
  | done {i : Nat} {st : PSt} : toSee R i st.seen = 0 → Find R i st false st
  | free {i : Nat} {st : PSt} : toSee R i st.seen ≠ 0 → st.ah (low (toSee R i st.seen)) < 0 →
      Find R i st true ⟨setF st.nx i (low (toSee R i st.seen) : Nat), setF st.ah (low (toSee R i st.seen)) (i : Nat), addN st.seen (low (toSee R i st.seen))⟩
  | via {i j : Nat} {st st1 : PSt} : toSee R i st.seen ≠ 0 → st.ah (low (toSee R i st.seen)) = (j : Int) → Find R j ⟨st.nx, st.ah, addN st.seen (low (toSee R i st.seen))⟩ true st1 →
      Find R i st true ⟨setF st1.nx i (low (toSee R i st.seen) : Nat), setF st1.ah (low (toSee R i st.seen)) (i : Nat), st1.seen⟩
  | skip {i j : Nat} {st st1 st2 : PSt} {b : Bool} : toSee R i st.seen ≠ 0 → st.ah (low (toSee R i st.seen)) = (j : Int) → Find R j ⟨st.nx, st.ah, addN st.seen (low (toSee R i st.seen))⟩ false st1 →
      Find R i st1 b st2 → Find R i st b st2
theorem find_det {R : List Nat} {i : Nat} {st st1 : PSt} {b : Bool} (h : Find R i st b st1) : ∀ {b' : Bool} {st2 : PSt}, Find R i st b' st2 → b = b' ∧ st1 = st2 := by
  induction h with
  | done h =>
    intro b' st2 h'
    cases h' with
    | done _ => exact ⟨rfl, rfl⟩
    | free h2 _ => exact absurd h h2
    | via h2 _ _ => exact absurd h h2
    | skip h2 _ _ _ => exact absurd h h2
  | free h0 h1 =>
    intro b' st2 h'
    cases h' with
    | done h2 => exact absurd h2 h0
    | free _ _ => exact ⟨rfl, rfl⟩
    | via _ h3 _ => rw [h3] at h1; omega
    | skip _ h3 _ _ => rw [h3] at h1; omega
  | via h0 h1 _ ih =>
    intro b' st2 h'
    cases h' with
    | done h2 => exact absurd h2 h0
    | free _ h3 => rw [h1] at h3; omega
    | via _ h3 h4 =>
      rw [h1] at h3
      have h3' := Int.ofNat.inj h3
      subst h3'
      obtain ⟨_, rfl⟩ := ih h4
      exact ⟨rfl, rfl⟩
    | skip _ h3 h4 _ =>
      rw [h1] at h3
      have h3' := Int.ofNat.inj h3
      subst h3'
      have := (ih h4).1
      cases this
  | skip h0 h1 _ _ ih ih2 =>
    intro b' st2 h'
    cases h' with
    | done h2 => exact absurd h2 h0
    | free _ h3 => rw [h1] at h3; omega
    | via _ h3 h4 =>
      rw [h1] at h3
      have h3' := Int.ofNat.inj h3
      subst h3'
      have := (ih h4).1
      cases this
    | skip _ h3 h4 h5 =>
      rw [h1] at h3
      have h3' := Int.ofNat.inj h3
      subst h3'
      obtain ⟨_, rfl⟩ := ih h4
      exact ih2 h5

/-- It is consistent, but that key e may be stale. -/
structure PInv (R : List Nat) (n : Nat) (nx ah : Nat → Int) (e : Int) : Prop where
  nx_lo : ∀ j, j < n → -1 ≤ nx j
  ah_lo : ∀ k, k < n → -1 ≤ ah k
  nx_ok : ∀ j (k : Nat), j < n → nx j = (k : Int) → k < n ∧ (rowAt R j).testBit k = true ∧ ah k = (j : Int)
  ah_ok : ∀ k (j : Nat), k < n → ah k = (j : Int) → j < n ∧ (nx j = (k : Int) ∨ e = (k : Int))
/-- Whose partner has been seen, or that has none. -/
def Calm (nx : Nat → Int) (s j : Nat) : Prop := ∀ k : Nat, nx j = (k : Int) → s.testBit k = true
/-- All of it are paired, and see nothing beyond it. -/
def ClosedS (R : List Nat) (ah : Nat → Int) (S : Nat) : Prop := ∀ k, S.testBit k = true → ∃ j : Nat, ah k = (j : Int) ∧ ∀ q, (rowAt R j).testBit q = true → S.testBit q = true
structure FindPost (R : List Nat) (n i : Nat) (st : PSt) (b : Bool) (st' : PSt) : Prop where
  grows : ∀ k, st.seen.testBit k = true → st'.seen.testBit k = true
  inside : ∀ k, st'.seen.testBit k = true → k < n
  no : b = false → st'.nx = st.nx ∧ st'.ah = st.ah ∧ (∀ q, (rowAt R i).testBit q = true → st'.seen.testBit q = true) ∧
    ∀ k, st'.seen.testBit k = true → st.seen.testBit k = false → ∃ j : Nat, st.ah k = (j : Int) ∧ ∀ q, (rowAt R j).testBit q = true → st'.seen.testBit q = true
  yes : b = true → PInv R n st'.nx st'.ah (st.nx i) ∧ (∃ k : Nat, st'.nx i = (k : Int) ∧ st.seen.testBit k = false) ∧
    (∀ k, st.seen.testBit k = true → st'.ah k = st.ah k) ∧ (∀ j, j < n → j ≠ i → (st'.nx j < 0 ↔ st.nx j < 0)) ∧
    (∀ j, j < n → j ≠ i → Calm st.nx st.seen j → st'.nx j = st.nx j) ∧
    (∀ S, ClosedS R st.ah S → ¬ (∀ q, (rowAt R i).testBit q = true → S.testBit q = true) ∧ ∀ k, S.testBit k = true → st'.ah k = st.ah k)
theorem toSee_low {R : List Nat} (hg : Good R) {i s : Nat} (hs : B64 s) (h : toSee R i s ≠ 0) :
    (rowAt R i).testBit (low (toSee R i s)) = true ∧ s.testBit (low (toSee R i s)) = false ∧ low (toSee R i s) < R.length := by
  have hb : B64 (toSee R i s) := minus_b64 (hg.b64 i)
  have h1 := low_bit hb h
  unfold toSee at h1 ⊢
  rw [minus_bit (hg.b64 i) hs] at h1
  simp only [Bool.and_eq_true, Bool.not_eq_true'] at h1
  exact ⟨h1.1, h1.2, hg.2 i _ h1.1⟩
theorem toSee_zero {R : List Nat} (hg : Good R) {i s : Nat} (hs : B64 s) (h : toSee R i s = 0) (q : Nat) (hq : (rowAt R i).testBit q = true) : s.testBit q = true := by
  have := minus_bit (hg.b64 i) hs q
  unfold toSee at h
  rw [h, hq] at this
  simpa using this
theorem addN_bit (s n i : Nat) : (addN s n).testBit i = (s.testBit i || decide (n = i)) := or_bit s n i

theorem find_post {R : List Nat} (hg : Good R) {i : Nat} {st st' : PSt} {b : Bool} (h : Find R i st b st') :
    i < R.length → (∀ k, st.seen.testBit k = true → k < R.length) → PInv R R.length st.nx st.ah (-1) → Calm st.nx st.seen i → FindPost R R.length i st b st' := by
  have b64 : ∀ {s : Nat}, (∀ k, s.testBit k = true → k < R.length) → B64 s := fun h => B64.of_bits fun j hj => Nat.lt_of_lt_of_le (h j hj) hg.1
  have add_in : ∀ {s k : Nat}, (∀ q, s.testBit q = true → q < R.length) → k < R.length → ∀ q, (addN s k).testBit q = true → q < R.length := fun h1 h2 q hq => by
    rw [addN_bit] at hq
    simp only [Bool.or_eq_true, decide_eq_true_eq] at hq
    rcases hq with h | h
    · exact h1 q h
    · omega
  have add_up : ∀ {s k : Nat} (q : Nat), s.testBit q = true → (addN s k).testBit q = true := fun q hq => by rw [addN_bit, hq]; rfl
  have add_self : ∀ {s k : Nat}, (addN s k).testBit k = true := fun {s k} => by rw [addN_bit]; simp
  induction h with
  | @done i st h0 =>
    intro hi hs hp hc
    exact ⟨fun k hk => hk, hs, fun _ => ⟨rfl, rfl, fun q hq => toSee_zero hg (b64 hs) h0 q hq, fun k h1 h2 => by rw [h1] at h2; cases h2⟩, fun h => by cases h⟩
  | @free i st h0 h1 =>
    intro hi hs hp hc
    obtain ⟨hk1, hk2, hk3⟩ := toSee_low hg (b64 hs) h0
    generalize low (toSee R i st.seen) = k at *
    refine ⟨fun q hq => add_up q hq, add_in hs hk3, fun h => by (cases h), fun _ => ⟨⟨?_, ?_, ?_, ?_⟩, ⟨k, setF_self _ _ _, hk2⟩, ?_, ?_, ?_, ?_⟩⟩
    · intro j hj
      show -1 ≤ setF st.nx i k j
      unfold setF; split
      · omega
      · exact hp.nx_lo j hj
    · intro q hq
      show -1 ≤ setF st.ah k i q
      unfold setF; split
      · omega
      · exact hp.ah_lo q hq
    · intro j q hj hjq
      have hjq' : setF st.nx i k j = (q : Int) := hjq
      show q < R.length ∧ _ ∧ setF st.ah k i q = (j : Int)
      by_cases hji : j = i
      · subst hji
        rw [setF_self] at hjq'
        have hqk : q = k := by omega
        subst hqk
        exact ⟨hk3, hk1, setF_self _ _ _⟩
      · rw [setF_other hji] at hjq'
        obtain ⟨a1, a2, a3⟩ := hp.nx_ok j q hj hjq'
        have hqk : q ≠ k := fun e => by subst e; omega
        exact ⟨a1, a2, by rw [setF_other hqk]; exact a3⟩
    · intro q j hq hqj
      have hqj' : setF st.ah k i q = (j : Int) := hqj
      show j < R.length ∧ (setF st.nx i k j = (q : Int) ∨ st.nx i = (q : Int))
      by_cases hqk : q = k
      · subst hqk
        rw [setF_self] at hqj'
        have hji : j = i := by omega
        subst hji
        exact ⟨hi, .inl (setF_self _ _ _)⟩
      · rw [setF_other hqk] at hqj'
        obtain ⟨a1, a2⟩ := hp.ah_ok q j hq hqj'
        have a3 : st.nx j = (q : Int) := by
          rcases a2 with a | a
          · exact a
          · omega
        by_cases hji : j = i
        · subst hji; exact ⟨a1, .inr a3⟩
        · exact ⟨a1, .inl (by rw [setF_other hji]; exact a3)⟩
    · intro q hq
      exact setF_other (fun e => by subst e; rw [hq] at hk2; cases hk2)
    · intro j _ hji
      show setF st.nx i k j < 0 ↔ _
      rw [setF_other hji]
    · intro j _ hji _
      exact setF_other hji
    · intro S hS
      have hkS : S.testBit k ≠ true := fun h => by
        obtain ⟨j, hj, _⟩ := hS k h
        omega
      exact ⟨fun h => hkS (h k hk1), fun q hq => setF_other (fun e => by subst e; exact hkS hq)⟩
  | @via i j st st1 h0 h1 _ ih =>
    intro hi hs hp hc
    obtain ⟨hk1, hk2, hk3⟩ := toSee_low hg (b64 hs) h0
    generalize low (toSee R i st.seen) = k at *
    obtain ⟨hj, hnj⟩ := hp.ah_ok k j hk3 h1
    have hnj' : st.nx j = (k : Int) := by
      rcases hnj with a | a
      · exact a
      · omega
    have hij : i ≠ j := fun e => by
      subst e
      have := hc k hnj'
      rw [hk2] at this; cases this
    have ihp := ih hj (add_in hs hk3) hp (fun q hq => by
      have : q = k := by have := hnj'.symm.trans hq; omega
      subst this
      exact add_self)
    obtain ⟨y1, ⟨k2, y2, y2'⟩, y3, y4, y5, y6⟩ := ihp.yes rfl
    have hcalm : Calm st.nx (addN st.seen k) i := fun q hq => add_up q (hc q hq)
    have hi1 : st1.nx i = st.nx i := y5 i hi hij hcalm
    have hk2k : k2 ≠ k := fun e => by subst e; rw [add_self] at y2'; cases y2'
    have hahk : st1.ah k = (j : Int) := by rw [y3 k add_self]; exact h1
    refine ⟨fun q hq => ihp.grows q (add_up q hq), ihp.inside, fun h => by (cases h), fun _ => ⟨⟨?_, ?_, ?_, ?_⟩, ⟨k, setF_self _ _ _, hk2⟩, ?_, ?_, ?_, ?_⟩⟩
    · intro x hx
      show -1 ≤ setF st1.nx i k x
      unfold setF; split
      · omega
      · exact y1.nx_lo x hx
    · intro q hq
      show -1 ≤ setF st1.ah k i q
      unfold setF; split
      · omega
      · exact y1.ah_lo q hq
    · intro x q hx hxq
      have hxq' : setF st1.nx i k x = (q : Int) := hxq
      show q < R.length ∧ _ ∧ setF st1.ah k i q = (x : Int)
      by_cases hxi : x = i
      · subst hxi
        rw [setF_self] at hxq'
        have hqk : q = k := by omega
        subst hqk
        exact ⟨hk3, hk1, setF_self _ _ _⟩
      · rw [setF_other hxi] at hxq'
        obtain ⟨a1, a2, a3⟩ := y1.nx_ok x q hx hxq'
        have hqk : q ≠ k := fun e => by
          subst e
          rw [hahk] at a3
          have hxj : x = j := by omega
          subst hxj
          rw [y2] at hxq'
          omega
        exact ⟨a1, a2, by rw [setF_other hqk]; exact a3⟩
    · intro q x hq hqx
      have hqx' : setF st1.ah k i q = (x : Int) := hqx
      show x < R.length ∧ (setF st1.nx i k x = (q : Int) ∨ st.nx i = (q : Int))
      by_cases hqk : q = k
      · subst hqk
        rw [setF_self] at hqx'
        have hxi : x = i := by omega
        subst hxi
        exact ⟨hi, .inl (setF_self _ _ _)⟩
      · rw [setF_other hqk] at hqx'
        obtain ⟨a1, a2⟩ := y1.ah_ok q x hq hqx'
        have a3 : st1.nx x = (q : Int) := by
          rcases a2 with a | a
          · exact a
          · have a' : st.nx j = (q : Int) := a
            omega
        by_cases hxi : x = i
        · subst hxi; exact ⟨a1, .inr (by rw [← hi1]; exact a3)⟩
        · exact ⟨a1, .inl (by rw [setF_other hxi]; exact a3)⟩
    · intro q hq
      show setF st1.ah k i q = _
      rw [setF_other (fun e => by subst e; rw [hq] at hk2; cases hk2)]
      exact y3 q (add_up q hq)
    · intro x hx hxi
      show setF st1.nx i k x < 0 ↔ _
      rw [setF_other hxi]
      by_cases hxj : x = j
      · subst hxj; omega
      · exact y4 x hx hxj
    · intro x hx hxi hxc
      show setF st1.nx i k x = _
      rw [setF_other hxi]
      have hxj : x ≠ j := fun e => by
        subst e
        have := hxc k hnj'
        rw [hk2] at this; cases this
      exact y5 x hx hxj (fun q hq => add_up q (hxc q hq))
    · intro S hS
      obtain ⟨z1, z2⟩ := y6 S hS
      have hkS : S.testBit k ≠ true := fun h => by
        obtain ⟨x, hx, hx2⟩ := hS k h
        have hxj : x = j := by omega
        subst hxj
        exact z1 hx2
      refine ⟨fun h => hkS (h k hk1), fun q hq => ?_⟩
      show setF st1.ah k i q = _
      rw [setF_other (fun e => by subst e; exact hkS hq)]
      exact z2 q hq
  | @skip i j st st1 st2 b h0 h1 _ _ ih ih2 =>
    intro hi hs hp hc
    obtain ⟨hk1, hk2, hk3⟩ := toSee_low hg (b64 hs) h0
    generalize low (toSee R i st.seen) = k at *
    obtain ⟨hj, hnj⟩ := hp.ah_ok k j hk3 h1
    have hnj' : st.nx j = (k : Int) := by
      rcases hnj with a | a
      · exact a
      · omega
    have ihp := ih hj (add_in hs hk3) hp (fun q hq => by
      have : q = k := by have := hnj'.symm.trans hq; omega
      subst this
      exact add_self)
    obtain ⟨n1, n2, n3, n4⟩ := ihp.no rfl
    have n1' : st1.nx = st.nx := n1
    have n2' : st1.ah = st.ah := n2
    have ihq := ih2 hi ihp.inside (by rw [n1', n2']; exact hp) (fun q hq => ihp.grows q (add_up q (hc q (by rw [← n1']; exact hq))))
    have cl : ∀ q, st1.seen.testBit q = true → st.seen.testBit q = false → ∃ x : Nat, st.ah q = (x : Int) ∧ ∀ y, (rowAt R x).testBit y = true → st1.seen.testBit y = true := fun q hq1 hq2 => by
      by_cases hqk : k = q
      · subst hqk
        exact ⟨j, h1, n3⟩
      · exact n4 q hq1 (by show (addN st.seen k).testBit q = false; rw [addN_bit, hq2]; simp [hqk])
    refine ⟨fun q hq => ihq.grows q (ihp.grows q (add_up q hq)), ihq.inside, fun hb => ?_, fun hb => ?_⟩
    · obtain ⟨m1, m2, m3, m4⟩ := ihq.no hb
      refine ⟨m1.trans n1', m2.trans n2', m3, fun q hq1 hq2 => ?_⟩
      cases hq3 : st1.seen.testBit q with
      | true =>
        obtain ⟨x, hx, hx2⟩ := cl q hq3 hq2
        exact ⟨x, hx, fun y hy => ihq.grows y (hx2 y hy)⟩
      | false =>
        obtain ⟨x, hx, hx2⟩ := m4 q hq1 hq3
        exact ⟨x, by rw [← n2']; exact hx, hx2⟩
    · obtain ⟨y1, ⟨k2, y2, y2'⟩, y3, y4, y5, y6⟩ := ihq.yes hb
      rw [n1'] at y1 y4 y5
      rw [n2'] at y3 y6
      refine ⟨y1, ⟨k2, y2, ?_⟩, fun q hq => y3 q (ihp.grows q (add_up q hq)), y4, fun x hx hxi hxc => y5 x hx hxi (fun q hq => ihp.grows q (add_up q (hxc q hq))), y6⟩
      cases hq : st.seen.testBit k2 with
      | false => rfl
      | true =>
        have := ihp.grows k2 (add_up k2 hq)
        rw [y2'] at this; cases this

/-- The pairing, from the first number on. -/
inductive PairRun (R : List Nat) : Nat → PSt → Prop
  | zero : PairRun R 0 ⟨fun _ => -1, fun _ => -1, 0⟩
  | succ {i : Nat} {st st' : PSt} {b : Bool} : PairRun R i st → Find R i ⟨st.nx, st.ah, 0⟩ b st' → PairRun R (i + 1) st'
theorem pairRun_det {R : List Nat} {i : Nat} {st : PSt} (h : PairRun R i st) : ∀ {st' : PSt}, PairRun R i st' → st = st' := by
  induction h with
  | zero => intro st' h'; cases h'; rfl
  | succ h1 h2 ih =>
    intro st' h'
    cases h' with
    | succ h3 h4 =>
      have := ih h3
      subst this
      exact (find_det h2 h4).2
structure PairInv (R : List Nat) (i : Nat) (st : PSt) : Prop where
  inv : PInv R R.length st.nx st.ah (-1)
  later : ∀ j, j < R.length → i ≤ j → st.nx j < 0
  stuck : ∃ S, (∀ k, S.testBit k = true → k < R.length) ∧ ClosedS R st.ah S ∧ ∀ j, j < i → st.nx j < 0 → ∀ q, (rowAt R j).testBit q = true → S.testBit q = true
theorem pairRun_inv {R : List Nat} (hg : Good R) {i : Nat} {st : PSt} (h : PairRun R i st) : i ≤ R.length → PairInv R i st := by
  induction h with
  | zero =>
    intro _
    refine ⟨⟨fun _ _ => by show (-1 : Int) ≤ -1; omega, fun _ _ => by show (-1 : Int) ≤ -1; omega, fun j k _ h => ?_, fun k j _ h => ?_⟩, fun j _ _ => by show (-1 : Int) < 0; omega, 0, fun k hk => by simp at hk, fun k hk => by simp at hk, fun j hj => by omega⟩
    · have h' : (-1 : Int) = k := h
      omega
    · have h' : (-1 : Int) = j := h
      omega
  | @succ i st st' b h1 h2 ih =>
    intro hi
    obtain ⟨p1, p2, S, p3, p4, p5⟩ := ih (by omega)
    have hp := find_post hg h2 (by omega) (fun k hk => by simp at hk) p1 (fun k hk => by
      have := p2 i (by omega) (Nat.le_refl _)
      have hk' : st.nx i = (k : Int) := hk
      omega)
    have hlt := p2 i (by omega) (Nat.le_refl _)
    have hlo := p1.nx_lo i (by omega)
    cases b with
    | true =>
      obtain ⟨y1, ⟨k2, y2, _⟩, _, y4, _, y6⟩ := hp.yes rfl
      have y1' : PInv R R.length st'.nx st'.ah (-1) := by
        have e : st.nx i = -1 := by omega
        have y1 : PInv R R.length st'.nx st'.ah (st.nx i) := y1
        rw [e] at y1
        exact y1
      refine ⟨y1', fun j hj hij => (y4 j hj (by omega)).2 (p2 j hj (by omega)), S, p3, fun k hk => ?_, fun j hj hn => ?_⟩
      · obtain ⟨x, hx, hx2⟩ := p4 k hk
        exact ⟨x, by rw [(y6 S p4).2 k hk]; exact hx, hx2⟩
      · by_cases hji : j = i
        · subst hji; omega
        · exact p5 j (by omega) ((y4 j (by omega) hji).1 hn)
    | false =>
      obtain ⟨n1, n2, n3, n4⟩ := hp.no rfl
      have n1' : st'.nx = st.nx := n1
      have n2' : st'.ah = st.ah := n2
      have bit : ∀ k, (S ||| st'.seen).testBit k = true ↔ S.testBit k = true ∨ st'.seen.testBit k = true := fun k => by rw [Nat.testBit_or, Bool.or_eq_true]
      refine ⟨by rw [n1', n2']; exact p1, fun j hj hij => by rw [n1']; exact p2 j hj (by omega), S ||| st'.seen, fun k hk => ?_, fun k hk => ?_, fun j hj hn q hq => ?_⟩
      · rcases (bit k).1 hk with h | h
        · exact p3 k h
        · exact hp.inside k h
      · rcases (bit k).1 hk with h | h
        · obtain ⟨x, hx, hx2⟩ := p4 k h
          exact ⟨x, by rw [n2']; exact hx, fun q hq => (bit q).2 (.inl (hx2 q hq))⟩
        · obtain ⟨x, hx, hx2⟩ := n4 k h (by simp)
          exact ⟨x, by rw [n2']; exact hx, fun q hq => (bit q).2 (.inr (hx2 q hq))⟩
      · by_cases hji : j = i
        · subst hji; exact (bit q).2 (.inr (n3 q hq))
        · rw [n1'] at hn
          exact (bit q).2 (.inl (p5 j (by omega) hn q hq))
end Go.Proofs.YtiechbaknolimaaDoor
