/- Plain law of package cut: one way more, along a walk of spots, keeps the ways apart. No condition. -/
import Derived.Test.YtonmkmghpiagjaaDoorKnotPlain2
namespace Go.Proofs.YtonmkmghpiagjaaDoor

/-- The ways so far: behind each number, ahead of it, and the first ones. -/
structure Fl where
  nx : Nat → Int
  ah : Nat → Int
  fs : List Nat
def usedF (a : Nat) (st : Fl) (n : Nat) : Prop := n ≠ a ∧ 0 ≤ st.ah n
/-- From a spot to a spot. -/
inductive Nxt (l : List Nat) (a b : Nat) (st : Fl) : Nat × Bool → Nat × Bool → Prop
  | fwd {n k : Nat} : n ≠ b → Ed l n k → k ≠ a → Nxt l a b st (n, true) (k, false)
  | back {n : Nat} : n ≠ b → usedF a st n → Nxt l a b st (n, true) (n, false)
  | thru {n : Nat} : n ≠ b → ¬ usedF a st n → Nxt l a b st (n, false) (n, true)
  | undo {n m : Nat} : n ≠ b → usedF a st n → st.ah n = (m : Int) → m ≠ a → Nxt l a b st (n, false) (m, true)
structure FInv (l : List Nat) (a b : Nat) (st : Fl) : Prop where
  nab : a ≠ b
  eab : ¬ Ed l a b
  nxv : ∀ n : Nat, st.nx n = -1 ∨ ∃ k : Nat, st.nx n = (k : Int) ∧ n ≠ a ∧ n ≠ b ∧ k ≠ a ∧ k ≠ n ∧ Ed l n k
  nxa : ∀ n k : Nat, st.nx n = (k : Int) → k ≠ b → st.ah k = (n : Int)
  ahv : ∀ k : Nat, st.ah k = -1 ∨ ∃ n : Nat, st.ah k = (n : Int) ∧ k ≠ a ∧ k ≠ b ∧ ((n = a ∧ k ∈ st.fs ∧ Ed l a k) ∨ (n ≠ a ∧ st.nx n = (k : Int)))
  fsv : ∀ k ∈ st.fs, st.ah k = (a : Int)
  fsn : st.fs.Nodup
  use : ∀ n : Nat, n ≠ a → n ≠ b → (0 ≤ st.ah n ↔ 0 ≤ st.nx n)
theorem fInv_start {l : List Nat} {a b : Nat} (h1 : a ≠ b) (h2 : ¬ Ed l a b) : FInv l a b ⟨fun _ => -1, fun _ => -1, []⟩ :=
  ⟨h1, h2, fun _ => .inl rfl, (fun n k h => by simp at h), fun _ => .inl rfl, fun k hk => (by cases hk), List.nodup_nil, fun n _ _ => Iff.rfl⟩
/-- A walk of spots from a's to b's, none twice. -/
structure SWalk (l : List Nat) (a b : Nat) (st : Fl) (p : List (Nat × Bool)) : Prop where
  hd : p[0]? = some (a, true)
  la : p[p.length - 1]? = some (b, false)
  nd : p.Nodup
  ch : ∀ i s t, p[i]? = some s → p[i + 1]? = some t → Nxt l a b st s t
section
variable {l : List Nat} {a b : Nat} {st : Fl} {p : List (Nat × Bool)}
theorem at_inj (hn : p.Nodup) {i j : Nat} {s : Nat × Bool} (hi : p[i]? = some s) (hj : p[j]? = some s) : i = j := by
  have h1 : i < p.length := by
    rcases Nat.lt_or_ge i p.length with h | h
    · exact h
    · rw [List.getElem?_eq_none h] at hi; cases hi
  have h2 : j < p.length := by
    rcases Nat.lt_or_ge j p.length with h | h
    · exact h
    · rw [List.getElem?_eq_none h] at hj; cases hj
  rw [List.getElem?_eq_getElem h1] at hi
  rw [List.getElem?_eq_getElem h2] at hj
  injection hi with hi
  injection hj with hj
  have hp := List.pairwise_iff_getElem.1 hn
  rcases Nat.lt_trichotomy i j with h | h | h
  · exact absurd (hi.trans hj.symm) (hp i j h1 h2 h)
  · exact h
  · exact absurd (hj.trans hi.symm) (hp j i h2 h1 h)
theorem SWalk.next (h : SWalk l a b st p) {i : Nat} {s : Nat × Bool} (hi : p[i]? = some s) (hs : s ≠ (b, false)) : ∃ t, p[i + 1]? = some t ∧ Nxt l a b st s t := by
  have h1 : i < p.length := by
    rcases Nat.lt_or_ge i p.length with h | h
    · exact h
    · rw [List.getElem?_eq_none h] at hi; cases hi
  have h2 : i ≠ p.length - 1 := fun e => by
    rw [e, h.la] at hi
    injection hi with hi
    exact hs hi.symm
  have h3 : i + 1 < p.length := by omega
  exact ⟨p[i + 1], List.getElem?_eq_getElem h3, h.ch i s _ hi (List.getElem?_eq_getElem h3)⟩
theorem SWalk.prev (h : SWalk l a b st p) {i : Nat} {s : Nat × Bool} (hi : p[i]? = some s) (hs : s ≠ (a, true)) : ∃ j t, i = j + 1 ∧ p[j]? = some t ∧ Nxt l a b st t s := by
  cases i with
  | zero =>
    rw [h.hd] at hi
    injection hi with hi
    exact absurd hi.symm hs
  | succ j =>
    have h1 : j + 1 < p.length := by
      rcases Nat.lt_or_ge (j + 1) p.length with h | h
      · exact h
      · rw [List.getElem?_eq_none h] at hi; cases hi
    have h2 : p[j]? = some (p[j]'(by omega)) := List.getElem?_eq_getElem _
    exact ⟨j, _, rfl, h2, h.ch j _ s h2 hi⟩
def AddE (p : List (Nat × Bool)) (x k : Nat) : Prop := ∃ i, p[i]? = some (x, true) ∧ p[i + 1]? = some (k, false) ∧ x ≠ k
def DropE (p : List (Nat × Bool)) (n m : Nat) : Prop := ∃ i, p[i]? = some (m, false) ∧ p[i + 1]? = some (n, true) ∧ n ≠ m
theorem SWalk.add_ok (h : SWalk l a b st p) {x k : Nat} (e : AddE p x k) : Ed l x k ∧ k ≠ a ∧ x ≠ b := by
  obtain ⟨i, h1, h2, h3⟩ := e
  have := h.ch i _ _ h1 h2
  cases this with
  | fwd g1 g2 g3 => exact ⟨g2, g3, g1⟩
  | back _ _ => exact absurd rfl h3
theorem SWalk.drop_ok (h : SWalk l a b st p) {n m : Nat} (e : DropE p n m) : st.ah m = (n : Int) ∧ n ≠ a ∧ m ≠ b ∧ usedF a st m := by
  obtain ⟨i, h1, h2, h3⟩ := e
  have := h.ch i _ _ h1 h2
  cases this with
  | thru _ _ => exact absurd rfl h3
  | undo g1 g2 g3 g4 => exact ⟨g3, g4, g1, g2⟩
theorem SWalk.add_fun (h : SWalk l a b st p) {x k k' : Nat} (e : AddE p x k) (e' : AddE p x k') : k = k' := by
  obtain ⟨i, h1, h2, _⟩ := e
  obtain ⟨j, g1, g2, _⟩ := e'
  have := at_inj h.nd h1 g1
  subst this
  rw [h2] at g2
  injection g2 with g2
  injection g2
theorem SWalk.add_inj (h : SWalk l a b st p) {x x' k : Nat} (e : AddE p x k) (e' : AddE p x' k) : x = x' := by
  obtain ⟨i, h1, h2, _⟩ := e
  obtain ⟨j, g1, g2, _⟩ := e'
  have := at_inj h.nd h2 g2
  have : i = j := by omega
  subst this
  rw [h1] at g1
  injection g1 with g1
  injection g1
/-- Where a used number's way in is met, the edge ahead of it is dropped. -/
theorem SWalk.in_used (h : SWalk l a b st p) (hf : FInv l a b st) {i m : Nat} (hi : p[i]? = some (m, false)) (hm : m ≠ b) (hu : usedF a st m) : ∃ n : Nat, st.ah m = (n : Int) ∧ n ≠ a ∧ p[i + 1]? = some (n, true) ∧ DropE p n m := by
  obtain ⟨t, ht, hn⟩ := h.next hi (fun e => hm (by injection e))
  cases hn with
  | thru _ g => exact absurd hu g
  | @undo _ n _ _ g3 g4 =>
    refine ⟨n, g3, g4, ht, i, hi, ht, fun e => ?_⟩
    rcases hf.ahv m with h1 | ⟨n', h1, _, _, h2⟩
    · rw [g3] at h1; omega
    · have : n' = n := by omega
      subst this
      rcases h2 with ⟨h2, _⟩ | ⟨_, h2⟩
      · exact g4 h2
      · rcases hf.nxv n' with h3 | ⟨k, h3, _, _, _, h4, _⟩
        · rw [h2] at h3; omega
        · have : k = m := by omega
          omega
theorem SWalk.in_free (h : SWalk l a b st p) {i m : Nat} (hi : p[i]? = some (m, false)) (hm : m ≠ b) (hu : ¬ usedF a st m) : p[i + 1]? = some (m, true) := by
  obtain ⟨t, ht, hn⟩ := h.next hi (fun e => hm (by injection e))
  cases hn with
  | thru _ _ => exact ht
  | undo _ g _ _ => exact absurd g hu
theorem SWalk.out_used (h : SWalk l a b st p) (hf : FInv l a b st) {i n : Nat} (hi : p[i]? = some (n, true)) (hu : usedF a st n) : ∃ m : Nat, st.ah m = (n : Int) ∧ usedF a st m ∧ m ≠ b ∧ DropE p n m := by
  obtain ⟨j, t, rfl, ht, hn⟩ := h.prev hi (fun e => hu.1 (by injection e))
  cases hn with
  | thru _ g => exact absurd hu g
  | @undo m _ g1 g2 g3 g4 =>
    refine ⟨m, g3, g2, g1, j, ht, hi, fun e => ?_⟩
    subst e
    obtain ⟨n', h1, h2, _⟩ := h.in_used hf ht g1 g2
    have : n' = n := by omega
    subst this
    rcases hf.ahv n' with h3 | ⟨n2, h3, _, _, h4⟩
    · rw [g3] at h3; omega
    · have : n2 = n' := by omega
      subst this
      rcases h4 with ⟨h4, _⟩ | ⟨_, h4⟩
      · exact g4 h4
      · rcases hf.nxv n2 with h5 | ⟨k, h5, _, _, _, h6, _⟩
        · rw [h4] at h5; omega
        · omega
theorem SWalk.out_free (h : SWalk l a b st p) {i n : Nat} (hi : p[i]? = some (n, true)) (hna : n ≠ a) (hno : ∀ m : Nat, st.ah m = (n : Int) → usedF a st m → m = b) : ∃ j, i = j + 1 ∧ p[j]? = some (n, false) := by
  obtain ⟨j, t, hij, ht, hn⟩ := h.prev hi (fun e => hna (by injection e))
  cases hn with
  | thru _ _ => exact ⟨j, hij, ht⟩
  | undo g1 g2 g3 _ => exact absurd (hno _ g3 g2) g1
theorem SWalk.out_next (h : SWalk l a b st p) {i n : Nat} (hi : p[i]? = some (n, true)) : ∃ k, p[i + 1]? = some (k, false) ∧ (n ≠ k → AddE p n k) := by
  obtain ⟨t, ht, hn⟩ := h.next hi (fun e => by injection e with _ e; cases e)
  cases hn with
  | fwd _ _ _ => exact ⟨_, ht, fun hne => ⟨i, hi, ht, hne⟩⟩
  | back _ _ => exact ⟨_, ht, fun hne => absurd rfl hne⟩
theorem SWalk.in_prev (h : SWalk l a b st p) {i n : Nat} (hi : p[i]? = some (n, false)) : ∃ j x, i = j + 1 ∧ p[j]? = some (x, true) ∧ (x ≠ n → AddE p x n) := by
  obtain ⟨j, t, rfl, ht, hn⟩ := h.prev hi (fun e => by injection e with _ e; cases e)
  cases hn with
  | fwd _ _ _ => exact ⟨j, _, rfl, ht, fun hne => ⟨j, ht, hi, hne⟩⟩
  | back _ _ => exact ⟨j, _, rfl, ht, fun hne => absurd rfl hne⟩
/-- What the state is behind the walk. -/
structure Aug (a b : Nat) (st : Fl) (p : List (Nat × Bool)) (st' : Fl) : Prop where
  n1 : ∀ n k, AddE p n k → n ≠ a → st'.nx n = (k : Int)
  n2 : ∀ n m, (∀ k, ¬ AddE p n k) → DropE p n m → st'.nx n = -1
  n3 : ∀ n, (n = a ∨ ∀ k, ¬ AddE p n k) → (∀ m, ¬ DropE p n m) → st'.nx n = st.nx n
  a1 : ∀ x k, AddE p x k → k ≠ b → st'.ah k = (x : Int)
  a2 : ∀ n m, (∀ x, ¬ AddE p x m) → DropE p n m → st'.ah m = -1
  a3 : ∀ m, (m = b ∨ ∀ x, ¬ AddE p x m) → (∀ n, ¬ DropE p n m) → st'.ah m = st.ah m
  f1 : ∃ k, AddE p a k ∧ st'.fs = st.fs ++ [k]
theorem FInv.ah_cases (hf : FInv l a b st) {m n : Nat} (h : st.ah m = (n : Int)) : m ≠ a ∧ m ≠ b ∧ ((n = a ∧ m ∈ st.fs ∧ Ed l a m) ∨ (n ≠ a ∧ st.nx n = (m : Int))) := by
  rcases hf.ahv m with h1 | ⟨n', h1, h2, h3, h4⟩
  · rw [h] at h1; omega
  · have : n' = n := by omega
    subst this
    exact ⟨h2, h3, h4⟩
theorem FInv.nx_cases (hf : FInv l a b st) {n k : Nat} (h : st.nx n = (k : Int)) : n ≠ a ∧ n ≠ b ∧ k ≠ a ∧ k ≠ n ∧ Ed l n k := by
  rcases hf.nxv n with h1 | ⟨k', h1, h2⟩
  · rw [h] at h1; omega
  · have : k' = k := by omega
    subst this
    exact h2
theorem used_of {n m : Nat} (h : st.ah m = (n : Int)) (hm : m ≠ a) : usedF a st m := ⟨hm, by rw [h]; omega⟩
/-- An unused number that the walk leaves was come to by its way in just before. -/
theorem SWalk.free_out (h : SWalk l a b st p) (hf : FInv l a b st) {i n : Nat} (hi : p[i]? = some (n, true)) (hna : n ≠ a) (hnb : n ≠ b) (hu : ¬ usedF a st n) : ∃ j, i = j + 1 ∧ p[j]? = some (n, false) :=
  h.out_free hi hna (fun m hm hum => by
    obtain ⟨_, hmb, h4⟩ := hf.ah_cases hm
    rcases h4 with ⟨e, _⟩ | ⟨_, e⟩
    · exact absurd e hna
    · have h5 : 0 ≤ st.ah n := (hf.use n hna hnb).2 (by rw [e]; omega)
      exact absurd ⟨hna, h5⟩ hu)
theorem SWalk.not_out_b (h : SWalk l a b st p) (hf : FInv l a b st) {i : Nat} (hi : p[i]? = some (b, true)) : False := by
  obtain ⟨j, t, rfl, ht, hn⟩ := h.prev hi (fun e => hf.nab (by injection e with e; exact e.symm))
  cases hn with
  | thru g _ => exact g rfl
  | undo g1 g2 g3 g4 =>
    obtain ⟨_, _, h4⟩ := hf.ah_cases g3
    rcases h4 with ⟨e, _⟩ | ⟨_, e⟩
    · exact g4 e
    · exact (hf.nx_cases e).2.1 rfl
theorem SWalk.not_in_first (h : SWalk l a b st p) (hf : FInv l a b st) {i m : Nat} (hi : p[i]? = some (m, false)) (hm : st.ah m = (a : Int)) : False := by
  obtain ⟨h1, h2, _⟩ := hf.ah_cases hm
  obtain ⟨n, h3, h4, _⟩ := h.in_used hf hi h2 (used_of hm h1)
  rw [hm] at h3
  exact h4 (by omega)
theorem aug_inv (h : SWalk l a b st p) (hf : FInv l a b st) {st' : Fl} (hA : Aug a b st p st') : FInv l a b st' := by
  have noDropA : ∀ m, ¬ DropE p a m := fun m hd => (h.drop_ok hd).2.1 rfl
  have noAddToA : ∀ x, ¬ AddE p x a := fun x he => (h.add_ok he).2.1 rfl
  have noAddB : ∀ k, ¬ AddE p b k := fun k he => (h.add_ok he).2.2 rfl
  have nxa' : ∀ m, ¬ DropE p b m := fun m hd => by
    obtain ⟨g1, g2, g3, g4⟩ := h.drop_ok hd
    obtain ⟨_, _, h4⟩ := hf.ah_cases g1
    rcases h4 with ⟨e, _⟩ | ⟨_, e⟩
    · exact g2 e
    · exact (hf.nx_cases e).2.1 rfl
  have noDropToA : ∀ n, ¬ DropE p n a := fun n hd => (h.drop_ok hd).2.2.2.1 rfl
  have noDropToB : ∀ n, ¬ DropE p n b := fun n hd => (h.drop_ok hd).2.2.1 rfl
  -- the state's words, case by case
  have nxc : ∀ n : Nat, n ≠ a → (∃ k, AddE p n k ∧ st'.nx n = (k : Int)) ∨ ((∀ k, ¬ AddE p n k) ∧ (∃ m, DropE p n m) ∧ st'.nx n = -1) ∨ ((∀ k, ¬ AddE p n k) ∧ (∀ m, ¬ DropE p n m) ∧ st'.nx n = st.nx n) := fun n hna => by
    by_cases h1 : ∃ k, AddE p n k
    · obtain ⟨k, hk⟩ := h1
      exact .inl ⟨k, hk, hA.n1 n k hk hna⟩
    · have h1' : ∀ k, ¬ AddE p n k := fun k hk => h1 ⟨k, hk⟩
      by_cases h2 : ∃ m, DropE p n m
      · obtain ⟨m, hm⟩ := h2
        exact .inr (.inl ⟨h1', ⟨m, hm⟩, hA.n2 n m h1' hm⟩)
      · have h2' : ∀ m, ¬ DropE p n m := fun m hm => h2 ⟨m, hm⟩
        exact .inr (.inr ⟨h1', h2', hA.n3 n (.inr h1') h2'⟩)
  have ahc : ∀ m : Nat, m ≠ b → (∃ x, AddE p x m ∧ st'.ah m = (x : Int)) ∨ ((∀ x, ¬ AddE p x m) ∧ (∃ n, DropE p n m) ∧ st'.ah m = -1) ∨ ((∀ x, ¬ AddE p x m) ∧ (∀ n, ¬ DropE p n m) ∧ st'.ah m = st.ah m) := fun m hmb => by
    by_cases h1 : ∃ x, AddE p x m
    · obtain ⟨x, hx⟩ := h1
      exact .inl ⟨x, hx, hA.a1 x m hx hmb⟩
    · have h1' : ∀ x, ¬ AddE p x m := fun x hx => h1 ⟨x, hx⟩
      by_cases h2 : ∃ n, DropE p n m
      · obtain ⟨n, hn⟩ := h2
        exact .inr (.inl ⟨h1', ⟨n, hn⟩, hA.a2 n m h1' hn⟩)
      · have h2' : ∀ n, ¬ DropE p n m := fun n hn => h2 ⟨n, hn⟩
        exact .inr (.inr ⟨h1', h2', hA.a3 m (.inr h1') h2'⟩)
  have nxA : st'.nx a = -1 := by
    rw [hA.n3 a (.inl rfl) noDropA]
    rcases hf.nxv a with h1 | ⟨k, _, h2, _⟩
    · exact h1
    · exact absurd rfl h2
  have nxB : st'.nx b = -1 := by
    rw [hA.n3 b (.inr noAddB) nxa']
    rcases hf.nxv b with h1 | ⟨k, _, _, h2, _⟩
    · exact h1
    · exact absurd rfl h2
  have ahA : st'.ah a = -1 := by
    rw [hA.a3 a (.inr noAddToA) noDropToA]
    rcases hf.ahv a with h1 | ⟨k, _, h2, _⟩
    · exact h1
    · exact absurd rfl h2
  have ahB : st'.ah b = -1 := by
    rw [hA.a3 b (.inl rfl) noDropToB]
    rcases hf.ahv b with h1 | ⟨k, _, _, h2, _⟩
    · exact h1
    · exact absurd rfl h2
  obtain ⟨kf, hkf, hfs⟩ := hA.f1
  have hkfb : kf ≠ b := fun e => hf.eab (e ▸ (h.add_ok hkf).1)
  refine ⟨hf.nab, hf.eab, fun n => ?_, fun n k hn hkb => ?_, fun k => ?_, fun k hk => ?_, ?_, fun n hna hnb => ?_⟩
  · -- nxv
    by_cases hna : n = a
    · subst hna; exact .inl nxA
    · by_cases hnb : n = b
      · subst hnb; exact .inl nxB
      · rcases nxc n hna with ⟨k, h1, h2⟩ | ⟨_, _, h2⟩ | ⟨_, _, h2⟩
        · obtain ⟨g1, g2, _⟩ := h.add_ok h1
          obtain ⟨_, _, _, g3⟩ := h1
          exact .inr ⟨k, h2, hna, hnb, g2, fun e => g3 e.symm, g1⟩
        · exact .inl h2
        · rw [h2]; exact hf.nxv n
  · -- nxa
    have hna : n ≠ a := fun e => by subst e; rw [nxA] at hn; omega
    rcases nxc n hna with ⟨k', h1, h2⟩ | ⟨_, _, h2⟩ | ⟨g1, g2, h2⟩
    · have : k' = k := by omega
      subst this
      exact hA.a1 n k' h1 hkb
    · omega
    · rw [h2] at hn
      have hk := hf.nxa n k hn hkb
      have hka : k ≠ a := (hf.ah_cases hk).1
      have nod : ∀ n', ¬ DropE p n' k := fun n' hd => by
        have := (h.drop_ok hd).1
        have : n' = n := by omega
        exact g2 k (this ▸ hd)
      have noa : ∀ x, ¬ AddE p x k := fun x he => by
        obtain ⟨i, _, h4, _⟩ := he
        obtain ⟨n', g3, _, _, g4⟩ := h.in_used hf h4 hkb (used_of hk hka)
        exact nod n' g4
      rw [hA.a3 k (.inr noa) nod]
      exact hk
  · -- ahv
    by_cases hka : k = a
    · subst hka; exact .inl ahA
    · by_cases hkb : k = b
      · subst hkb; exact .inl ahB
      · rcases ahc k hkb with ⟨x, h1, h2⟩ | ⟨_, _, h2⟩ | ⟨g1, g2, h2⟩
        · refine .inr ⟨x, h2, hka, hkb, ?_⟩
          by_cases hxa : x = a
          · left
            subst hxa
            refine ⟨rfl, ?_, (h.add_ok h1).1⟩
            rw [hfs, h.add_fun h1 hkf]
            simp
          · exact .inr ⟨hxa, hA.n1 x k h1 hxa⟩
        · exact .inl h2
        · rw [h2]
          rcases hf.ahv k with h3 | ⟨n, h3, _, _, h4⟩
          · exact .inl h3
          · refine .inr ⟨n, h3, hka, hkb, ?_⟩
            rcases h4 with ⟨e1, e2, e3⟩ | ⟨e1, e2⟩
            · exact .inl ⟨e1, by rw [hfs]; exact List.mem_append_left _ e2, e3⟩
            · right
              refine ⟨e1, ?_⟩
              obtain ⟨_, hnb, _, hkn, _⟩ := hf.nx_cases e2
              have hun : usedF a st n := ⟨e1, (hf.use n e1 hnb).2 (by rw [e2]; omega)⟩
              have dk : ∀ m, DropE p n m → m = k := fun m hd => by
                obtain ⟨q1, q2, q3, q4⟩ := h.drop_ok hd
                obtain ⟨_, _, q5⟩ := hf.ah_cases q1
                rcases q5 with ⟨q5, _⟩ | ⟨_, q5⟩
                · exact absurd q5 e1
                · omega
              have nod : ∀ m, ¬ DropE p n m := fun m hd => by
                have := dk m hd
                subst this
                exact g2 n hd
              have noa : ∀ k', ¬ AddE p n k' := fun k' he => by
                obtain ⟨i, q1, _, _⟩ := he
                obtain ⟨m, _, _, _, q4⟩ := h.out_used hf q1 hun
                exact nod m q4
              rw [hA.n3 n (.inr noa) nod]
              exact e2
  · -- fsv
    rw [hfs] at hk
    rcases List.mem_append.1 hk with hk | hk
    · have h1 := hf.fsv k hk
      have hkb : k ≠ b := (hf.ah_cases h1).2.1
      rw [hA.a3 k (.inr fun x he => (by obtain ⟨i, _, q, _⟩ := he; exact h.not_in_first hf q h1)) (fun n hd => (by obtain ⟨i, q, _, _⟩ := hd; exact h.not_in_first hf q h1))]
      exact h1
    · rw [List.mem_singleton] at hk
      subst hk
      exact hA.a1 a k hkf hkfb
  · -- fsn
    rw [hfs, List.nodup_append]
    refine ⟨hf.fsn, by simp, fun x hx y hy e => ?_⟩
    rw [List.mem_singleton] at hy
    have h1 := hf.fsv x hx
    rw [e, hy] at h1
    obtain ⟨i, _, q, _⟩ := hkf
    exact h.not_in_first hf q h1
  · -- use
    have huse := hf.use n hna hnb
    constructor
    · intro hp
      rcases ahc n hnb with ⟨x, h1, h2⟩ | ⟨_, _, h2⟩ | ⟨g1, g2, h2⟩
      · obtain ⟨i, q1, q2, q3⟩ := h1
        by_cases hu : usedF a st n
        · rcases nxc n hna with ⟨k, h3, h4⟩ | ⟨h3, ⟨m, h4⟩, h5⟩ | ⟨_, _, h5⟩
          · rw [h4]; omega
          · exfalso
            obtain ⟨j, r1, r2, r3⟩ := h4
            obtain ⟨k, r4, r5⟩ := h.out_next r2
            by_cases hk : n = k
            · subst hk
              have := at_inj h.nd r4 q2
              have hji : j + 1 = i := by omega
              rw [hji, q1] at r2
              injection r2 with r2
              injection r2 with r2
              exact q3 r2
            · exact h3 k (r5 hk)
          · rw [h5]; exact huse.1 hu.2
        · have r1 := h.in_free q2 hnb hu
          obtain ⟨k, r4, r5⟩ := h.out_next r1
          by_cases hk : n = k
          · exfalso
            subst hk
            have := at_inj h.nd r4 q2
            omega
          · rw [hA.n1 n k (r5 hk) hna]; omega
      · omega
      · rw [h2] at hp
        have hu : usedF a st n := ⟨hna, hp⟩
        rcases nxc n hna with ⟨k, h3, h4⟩ | ⟨h3, ⟨m, h4⟩, h5⟩ | ⟨_, _, h5⟩
        · rw [h4]; omega
        · exfalso
          obtain ⟨j, r1, r2, r3⟩ := h4
          obtain ⟨k, r4, r5⟩ := h.out_next r2
          by_cases hk : n = k
          · subst hk
            obtain ⟨n', _, _, _, r6⟩ := h.in_used hf r4 hnb hu
            exact g2 n' r6
          · exact h3 k (r5 hk)
        · rw [h5]; exact huse.1 hp
    · intro hp
      rcases nxc n hna with ⟨k, h1, h2⟩ | ⟨_, _, h2⟩ | ⟨g1, g2, h2⟩
      · obtain ⟨i, q1, q2, q3⟩ := h1
        by_cases hu : usedF a st n
        · obtain ⟨m, r1, r2, r3, r4⟩ := h.out_used hf q1 hu
          rcases ahc n hnb with ⟨x, h3, h4⟩ | ⟨h3, ⟨y, h4⟩, h5⟩ | ⟨_, _, h5⟩
          · rw [h4]; omega
          · exfalso
            obtain ⟨j, s1, s2, s3⟩ := h4
            obtain ⟨j', x, s4, s5, s6⟩ := h.in_prev s1
            by_cases hx : x = n
            · subst hx
              have e1 := at_inj h.nd s5 q1
              subst e1
              subst s4
              rw [q2] at s1
              injection s1 with s1
              injection s1 with s1
              exact q3 s1.symm
            · exact h3 x (s6 hx)
          · rw [h5]; exact hu.2
        · obtain ⟨j, r1, r2⟩ := h.free_out hf q1 hna hnb hu
          obtain ⟨j', x, s4, s5, s6⟩ := h.in_prev r2
          by_cases hx : x = n
          · exfalso
            subst hx
            have := at_inj h.nd s5 q1
            omega
          · rw [hA.a1 x n (s6 hx) hnb]; omega
      · omega
      · rw [h2] at hp
        have hah := huse.2 hp
        have hu : usedF a st n := ⟨hna, hah⟩
        rcases ahc n hnb with ⟨x, h3, h4⟩ | ⟨h3, ⟨y, h4⟩, h5⟩ | ⟨_, _, h5⟩
        · rw [h4]; omega
        · exfalso
          obtain ⟨j, s1, s2, s3⟩ := h4
          obtain ⟨j', x, s4, s5, s6⟩ := h.in_prev s1
          by_cases hx : x = n
          · subst hx
            obtain ⟨m, _, _, _, r4⟩ := h.out_used hf s5 hu
            exact g2 m r4
          · exact h3 x (s6 hx)
        · rw [h5]; exact hah
end
end Go.Proofs.YtonmkmghpiagjaaDoor
