/- Plain law of package dom: where the program's rows stop, they are those that rule. No condition. -/
import Derived.Test.YtonmkmghpiagjaaDoorDomPlain3
namespace Go.Proofs.YtonmkmghpiagjaaDoor

/-- What stands in s and in every row named. -/
def meetF (f : Nat → Nat) (s : Nat) : List Nat → Nat
  | [] => s
  | p :: L => meetF f (s &&& f p) L
theorem meetF_bit (f : Nat → Nat) (L : List Nat) : ∀ (s j : Nat), (meetF f s L).testBit j = true ↔ s.testBit j = true ∧ ∀ p ∈ L, (f p).testBit j = true := by
  induction L with
  | nil => intro s j; simp [meetF]
  | cons p L ih =>
    intro s j
    unfold meetF
    rw [ih, Nat.testBit_and]
    simp [and_assoc]
theorem meetF_snoc (f : Nat → Nat) (L : List Nat) (p : Nat) : ∀ s, meetF f s (L ++ [p]) = meetF f s L &&& f p := by
  induction L with
  | nil => intro s; rfl
  | cons q L ih => intro s; exact ih _
theorem meetF_b64 {f : Nat → Nat} {s : Nat} (h : B64 s) (L : List Nat) : B64 (meetF f s L) := B64.of_bits fun j hj => h.bit ((meetF_bit f L s j).1 hj).1
theorem colUp_iff (l : List Nat) (i k j : Nat) : (colUp l i k).testBit j = true ↔ j < k ∧ (rowAt l j).testBit i = true := by
  induction k with
  | zero => simp [colUp]
  | succ k ih =>
    unfold colUp
    cases hq : (rowAt l k).testBit i with
    | true =>
      rw [if_pos rfl, addN_bit, Bool.or_eq_true, ih, decide_eq_true_eq]
      constructor
      · rintro (⟨h1, h2⟩ | h1)
        · exact ⟨by omega, h2⟩
        · subst h1; exact ⟨by omega, hq⟩
      · rintro ⟨h1, h2⟩
        rcases Nat.lt_or_ge j k with h3 | h3
        · exact .inl ⟨h3, h2⟩
        · exact .inr (by omega)
    | false =>
      rw [if_neg (by simp), ih]
      constructor
      · rintro ⟨h1, h2⟩
        exact ⟨by omega, h2⟩
      · rintro ⟨h1, h2⟩
        rcases Nat.lt_or_ge j k with h3 | h3
        · exact ⟨h3, h2⟩
        · obtain rfl : j = k := by omega
          rw [hq] at h2; cases h2
/-- Who is reached. -/
def comeS (l : List Nat) (root : Nat) : Nat := reachD l (2 ^ root) (-1)
/-- Those that are reached and lead to n. -/
def leadS (l : List Nat) (root n : Nat) : Nat := rowAt (turned l) n &&& comeS l root
/-- What the program sets for n. -/
def newS (l : List Nat) (root : Nat) (f : Nat → Nat) (n : Nat) : Nat := addN (meetF f (comeS l root) (nums (leadS l root n))) n
theorem come_in {l : List Nat} {root : Nat} (hg : Good l) (hr : root < l.length) : InRows l (comeS l root) := reachD_in hg (fun j hj => by
  rw [Nat.testBit_two_pow] at hj
  have : root = j := of_decide_eq_true hj
  omega) (-1)
theorem come_rch {l : List Nat} {root b : Nat} (hg : Good l) (hr : root < l.length) : (comeS l root).testBit b = true ↔ Rch l root (fun _ => True) b := domR_iff hg hr
theorem lead_bit {l : List Nat} {root n : Nat} (hg : Good l) (hr : root < l.length) (hn : n < l.length) (p : Nat) : p ∈ nums (leadS l root n) ↔ (rowAt l p).testBit n = true ∧ (comeS l root).testBit p = true := by
  unfold leadS
  rw [mem_nums (B64.and' ((come_in hg hr).b64 hg)), Nat.testBit_and, rowAt_turned l n hn, Bool.and_eq_true, colUp_iff]
  constructor
  · rintro ⟨⟨_, h1⟩, h2⟩; exact ⟨h1, h2⟩
  · rintro ⟨h1, h2⟩; exact ⟨⟨come_in hg hr p h2, h1⟩, h2⟩
theorem newS_bit {l : List Nat} {root n : Nat} (hg : Good l) (hr : root < l.length) (hn : n < l.length) (f : Nat → Nat) (j : Nat) :
    (newS l root f n).testBit j = true ↔ j = n ∨ ((comeS l root).testBit j = true ∧ ∀ p, (rowAt l p).testBit n = true → (comeS l root).testBit p = true → (f p).testBit j = true) := by
  unfold newS
  rw [addN_bit, Bool.or_eq_true, decide_eq_true_eq, meetF_bit]
  constructor
  · rintro (⟨h1, h2⟩ | h1)
    · exact .inr ⟨h1, fun p h3 h4 => h2 p ((lead_bit hg hr hn p).2 ⟨h3, h4⟩)⟩
    · exact .inl h1.symm
  · rintro (h1 | ⟨h1, h2⟩)
    · exact .inr h1.symm
    · exact .inl ⟨h1, fun p hp => h2 p ((lead_bit hg hr hn p).1 hp).1 ((lead_bit hg hr hn p).1 hp).2⟩
def updF (f : Nat → Nat) (n v i : Nat) : Nat := if i = n then v else f i
/-- What the program keeps. -/
structure DomInv (l : List Nat) (root : Nat) (f : Nat → Nat) : Prop where
  z : ∀ n, (comeS l root).testBit n = false → f n = 0
  r : f root = 2 ^ root
  inn : ∀ n, (comeS l root).testBit n = true → ∀ j, (f n).testBit j = true → (comeS l root).testBit j = true
  lo : ∀ n, (comeS l root).testBit n = true → ∀ a, a < l.length → domA l root n a = true → (f n).testBit a = true
  dn : ∀ n, (comeS l root).testBit n = true → n ≠ root → ∀ j, (newS l root f n).testBit j = true → (f n).testBit j = true
theorem come_root {l : List Nat} {root : Nat} (hg : Good l) (hr : root < l.length) : (comeS l root).testBit root = true := (come_rch hg hr).2 (.start trivial)
theorem domInv_b64 {l : List Nat} {root : Nat} {f : Nat → Nat} (hg : Good l) (hr : root < l.length) (h : DomInv l root f) (n : Nat) : B64 (f n) := by
  cases hc : (comeS l root).testBit n with
  | false => rw [h.z n hc]; exact B64.zero
  | true => exact B64.of_bits fun j hj => ((come_in hg hr).b64 hg).bit (h.inn n hc j hj)
/-- How the program begins. -/
def domF0 (l : List Nat) (root n : Nat) : Nat := if n = root then 2 ^ root else if (comeS l root).testBit n then comeS l root else 0
theorem domInv_start {l : List Nat} {root : Nat} (hg : Good l) (hr : root < l.length) : DomInv l root (domF0 l root) := by
  have hcr := come_root hg hr
  refine ⟨fun n hn => ?_, by unfold domF0; rw [if_pos rfl], fun n hn j hj => ?_, fun n hn a ha hd => ?_, fun n hn hne j hj => ?_⟩
  · have : ¬ n = root := by rintro rfl; rw [hn] at hcr; cases hcr
    unfold domF0
    rw [if_neg this, hn]
    rfl
  · unfold domF0 at hj
    split at hj
    · rw [Nat.testBit_two_pow] at hj
      have : root = j := of_decide_eq_true hj
      subst this
      exact hcr
    · simpa [hn] using hj
  · unfold domF0
    split
    · rename_i h
      subst h
      have := dom_root hg hr ha hd
      subst this
      rw [Nat.testBit_two_pow]; simp
    · try rw [hn, if_pos rfl]
      exact (come_rch hg hr).2 (dom_reached hg hr ha ((come_rch hg hr).1 hn) hd)
  · unfold domF0
    rw [if_neg hne, hn, if_pos rfl]
    rcases (newS_bit hg hr (come_in hg hr n hn) _ j).1 hj with h | h
    · subst h; exact hn
    · exact h.1
theorem newS_mono {l : List Nat} {root n : Nat} (hg : Good l) (hr : root < l.length) (hn : n < l.length) {f f' : Nat → Nat} (h : ∀ p j, (f' p).testBit j = true → (f p).testBit j = true) (j : Nat)
    (hj : (newS l root f' n).testBit j = true) : (newS l root f n).testBit j = true := by
  rw [newS_bit hg hr hn] at hj ⊢
  rcases hj with h1 | ⟨h1, h2⟩
  · exact .inl h1
  · exact .inr ⟨h1, fun p h3 h4 => h p j (h2 p h3 h4)⟩
theorem domInv_step {l : List Nat} {root n : Nat} {f : Nat → Nat} (hg : Good l) (hr : root < l.length) (h : DomInv l root f) (hn : (comeS l root).testBit n = true) (hne : n ≠ root) : DomInv l root (updF f n (newS l root f n)) := by
  have hnl := come_in hg hr n hn
  have hle : ∀ p j, (updF f n (newS l root f n) p).testBit j = true → (f p).testBit j = true := fun p j hj => by
    unfold updF at hj
    split at hj
    · rename_i e; subst e; exact h.dn _ hn hne j hj
    · exact hj
  refine ⟨fun m hm => ?_, ?_, fun m hm j hj => ?_, fun m hm a ha hd => ?_, fun m hm hmr j hj => ?_⟩
  · unfold updF
    have : ¬ m = n := by rintro rfl; rw [hn] at hm; cases hm
    rw [if_neg this]
    exact h.z m hm
  · unfold updF
    rw [if_neg (fun e => hne e.symm)]
    exact h.r
  · exact h.inn m hm j (hle m j hj)
  · unfold updF
    split
    · rename_i e
      subst e
      refine (newS_bit hg hr hnl f a).2 ?_
      by_cases hab : a = m
      · exact .inl hab
      · refine .inr ⟨(come_rch hg hr).2 (dom_reached hg hr ha ((come_rch hg hr).1 hn) hd), fun p h3 h4 => ?_⟩
        rcases domA_step hg hr ha h3 hd with e | e
        · exact absurd e hab
        · exact h.lo p h4 a ha e
    · exact h.lo m hm a ha hd
  · have hml := come_in hg hr m hm
    have hj' := newS_mono hg hr hml hle j hj
    unfold updF
    split
    · rename_i e; subst e; exact hj'
    · exact h.dn m hm hmr j hj'
theorem domInv_end {l : List Nat} {root : Nat} {f : Nat → Nat} (hg : Good l) (hr : root < l.length) (h : DomInv l root f) (hs : ∀ n, (comeS l root).testBit n = true → n ≠ root → newS l root f n = f n) (b : Nat) : f b = ruledBy l root b := by
  cases hb : (comeS l root).testBit b with
  | false =>
    rw [h.z b hb]
    unfold ruledBy
    have : domR l root b = false := hb
    rw [this]
    rfl
  | true =>
    have hdr : domR l root b = true := hb
    apply Nat.eq_of_testBit_eq
    intro a
    rw [ruledBy_bit hdr, Bool.eq_iff_iff, Bool.and_eq_true, decide_eq_true_eq]
    constructor
    · intro ha
      have hal := come_in hg hr a (h.inn b hb a ha)
      refine ⟨hal, stable_sub hg hr f (fun x hx => ?_) (fun i y x hi hy hyr hx => ?_) hal ha⟩
      · rw [h.r, Nat.testBit_two_pow] at hx
        exact (of_decide_eq_true hx).symm
      · have hyc : (comeS l root).testBit y = true := (come_rch hg hr).2 (.step hi hy trivial)
        rw [← hs y hyc hyr] at hx
        rcases (newS_bit hg hr (come_in hg hr y hyc) f x).1 hx with e | e
        · exact .inl e
        · exact .inr (e.2 i hy ((come_rch hg hr).2 hi))
    · rintro ⟨ha, hd⟩
      exact h.lo b hb a ha hd
/-- How many stand in the first k rows. -/
def tot (f : Nat → Nat) : Nat → Nat
  | 0 => 0
  | k + 1 => tot f k + (nums (f k)).length
theorem tot_upd (f : Nat → Nat) (n v : Nat) : ∀ k, tot (updF f n v) k + (if n < k then (nums (f n)).length else 0) = tot f k + (if n < k then (nums v).length else 0)
  | 0 => by simp [tot]
  | k + 1 => by
    have ih := tot_upd f n v k
    unfold tot updF
    by_cases hk : k = n
    · subst hk
      simp at ih
      simp
      have : tot (fun i => if i = k then v else f i) k = tot (updF f k v) k := rfl
      omega
    · have e : (n < k + 1) ↔ (n < k) := by omega
      simp only [e, if_neg hk]
      have : tot (fun i => if i = n then v else f i) k = tot (updF f n v) k := rfl
      omega
theorem tot_less {l : List Nat} {root n : Nat} {f : Nat → Nat} (hg : Good l) (hr : root < l.length) (h : DomInv l root f) (hn : (comeS l root).testBit n = true) (hne : n ≠ root) (hx : newS l root f n ≠ f n) : tot (updF f n (newS l root f n)) l.length + 1 ≤ tot f l.length := by
  have hnl := come_in hg hr n hn
  have h1 := tot_upd f n (newS l root f n) l.length
  rw [if_pos hnl, if_pos hnl] at h1
  have hsub := h.dn n hn hne
  have h2 : (nums (newS l root f n)).length + 1 ≤ (nums (f n)).length := by
    apply Classical.byContradiction
    intro hc
    apply hx
    apply Nat.eq_of_testBit_eq
    intro j
    rw [Bool.eq_iff_iff]
    refine ⟨hsub j, fun hj => ?_⟩
    cases hq : (newS l root f n).testBit j with
    | true => rfl
    | false => exact absurd (nums_more ((domInv_b64 hg hr h n).bit hj) hsub hq hj) hc
  omega
end Go.Proofs.YtonmkmghpiagjaaDoor
