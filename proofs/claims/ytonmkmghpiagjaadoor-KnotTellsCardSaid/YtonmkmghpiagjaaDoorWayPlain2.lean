/- Shortest walks, plain: where two sets meet first, and the least walk from there. -/
import Derived.Test.YtonmkmghpiagjaaDoorWayPlain
import Derived.Test.YtonmkmghpiagjaaDoorBits1
namespace Go.Proofs.YtonmkmghpiagjaaDoor

/-- The first ring that has some of a is ring m. -/
def Meet (l : List Nat) (a b m : Nat) : Prop := a &&& ring l b m ≠ 0 ∧ ∀ k, k < m → a &&& ring l b k = 0
def NoMeet (l : List Nat) (a b : Nat) : Prop := ∀ k, a &&& ring l b k = 0
theorem meet_or (l : List Nat) (a b : Nat) : (∃ m, Meet l a b m) ∨ NoMeet l a b := by
  by_cases h : ∃ k, a &&& ring l b k ≠ 0
  · obtain ⟨k, hk⟩ := h
    left
    have : ∀ k, a &&& ring l b k ≠ 0 → ∃ m, Meet l a b m := by
      intro k
      induction k using Nat.strongRecOn with
      | _ k ih =>
        intro hk
        by_cases h : ∃ j, j < k ∧ a &&& ring l b j ≠ 0
        · obtain ⟨j, hj, hj2⟩ := h
          exact ih j hj hj2
        · refine ⟨k, hk, fun j hj => ?_⟩
          apply Classical.byContradiction
          intro hc
          exact h ⟨j, hj, hc⟩
    exact this k hk
  · right
    intro k
    apply Classical.byContradiction
    intro hc
    exact h ⟨k, hc⟩
theorem and_zero {s t : Nat} : s &&& t = 0 ↔ ∀ i, s.testBit i = true → t.testBit i = false := by
  constructor
  · intro h i hi
    have := congrArg (fun x => x.testBit i) h
    simp only [Nat.testBit_and, hi, Nat.zero_testBit, Bool.true_and] at this
    exact this
  · intro h
    apply set_ext
    intro i
    rw [Nat.testBit_and, Nat.zero_testBit]
    cases hs : s.testBit i with
    | false => rfl
    | true => rw [h i hs]; rfl
theorem and_some {s t : Nat} (h : s &&& t ≠ 0) : ∃ i, s.testBit i = true ∧ t.testBit i = true := by
  apply Classical.byContradiction
  intro hc
  apply h
  rw [and_zero]
  intro i hi
  cases ht : t.testBit i with
  | false => rfl
  | true => exact absurd ⟨i, hi, ht⟩ hc
theorem ring_stable {l : List Nat} {a b k : Nat} (h : ring l b (k + 1) = ring l b k) (hz : ∀ j, j ≤ k → a &&& ring l b j = 0) : NoMeet l a b := by
  intro j
  rcases Nat.le_total j k with hj | hj
  · exact hz j hj
  · have : ring l b j = ring l b k := iterR_stable (turned l) b k h j hj
    rw [this]
    exact hz k (Nat.le_refl _)
theorem ring_grows {l : List Nat} (hg : Good l) {b : Nat} (hb : InRows l b) (k : Nat) (h : ring l b (k + 1) ≠ ring l b k) : (nums (ring l b k)).length + 1 ≤ (nums (ring l b (k + 1))).length :=
  iterR_grows (turned_good hg) (turned_in hb) k h
/-- A set within n rows has at most n numbers. -/
theorem nums_le {s n : Nat} (hn : n ≤ 64) (h : ∀ j, s.testBit j = true → j < n) : (nums s).length ≤ n := by
  unfold nums
  have : List.range 64 = List.range n ++ (List.range (64 - n)).map (n + ·) := by
    rw [← List.range_add]
    congr 1
    omega
  rw [this, List.filter_append]
  have hz : ((List.range (64 - n)).map (n + ·)).filter (fun i => s.testBit i) = [] := by
    rw [List.filter_eq_nil_iff]
    intro x hx
    obtain ⟨y, _, rfl⟩ := List.mem_map.1 hx
    intro hc
    have := h _ hc
    omega
  rw [hz, List.append_nil]
  exact Nat.le_trans (List.length_filter_le _ _) (by simp)
theorem level_le {l : List Nat} (hg : Good l) {b : Nat} (hb : InRows l b) {x d : Nat} (h : AtLevel l b x d) : d ≤ l.length := by
  have key : ∀ k, k ≤ d → k ≤ (nums (ring l b k)).length := by
    intro k
    induction k with
    | zero => intro _; omega
    | succ k ih =>
      intro hk
      have h1 := ih (by omega)
      have h2 := ring_grows hg hb k (fun he => by
        have hs : ring l b d = ring l b k := iterR_stable (turned l) b k he d (by omega)
        have h3 := h.2 k (by omega)
        rw [← hs, h.1] at h3
        cases h3)
      omega
  have h1 := key d (Nat.le_refl _)
  have h2 := nums_le hg.1 (ring_in hg hb d)
  omega
theorem meet_level {l : List Nat} {a b m x : Nat} (h : Meet l a b m) (hx : a.testBit x = true) : (ring l b m).testBit x = true ↔ AtLevel l b x m := by
  constructor
  · intro h1
    exact ⟨h1, fun k hk => and_zero.1 (h.2 k hk) x hx⟩
  · intro h1; exact h1.1
theorem meet_le {l : List Nat} (hg : Good l) {b : Nat} (hb : InRows l b) {a m : Nat} (h : Meet l a b m) : m ≤ l.length := by
  obtain ⟨x, h1, h2⟩ := and_some h.1
  exact level_le hg hb ((meet_level h h1).1 h2)
/-- The least walk from level i down. -/
def wayL (l : List Nat) (b : Nat) : Nat → Nat → List Nat
  | 0, a => [low (a &&& ring l b 0)]
  | i + 1, a => low (a &&& ring l b (i + 1)) :: wayL l b i (rowAt l (low (a &&& ring l b (i + 1))))
theorem wayL_cons (l : List Nat) (b i a : Nat) : wayL l b i a = low (a &&& ring l b i) :: (match i with | 0 => [] | j + 1 => wayL l b j (rowAt l (low (a &&& ring l b (j + 1))))) := by
  cases i <;> rfl
theorem wayL_len (l : List Nat) (b i : Nat) : ∀ a, (wayL l b i a).length = i + 1 := by
  induction i with
  | zero => intro a; rfl
  | succ i ih => intro a; unfold wayL; rw [List.length_cons, ih]
theorem meet_next {l : List Nat} (hg : Good l) {b : Nat} (hb : InRows l b) {a i : Nat} (ha : B64 a) (h : Meet l a b (i + 1)) : Meet l (rowAt l (low (a &&& ring l b (i + 1)))) b i := by
  have hB : B64 (a &&& ring l b (i + 1)) := ha.and
  have hl := low_bit hB h.1
  rw [Nat.testBit_and, Bool.and_eq_true] at hl
  generalize low (a &&& ring l b (i + 1)) = x at *
  have hlev := (meet_level h hl.1).1 hl.2
  constructor
  · intro hz
    rcases (ring_step hg hb i x).1 hl.2 with h1 | ⟨y, h1, h2⟩
    · have := hlev.2 i (by omega)
      rw [h1] at this; cases this
    · have := and_zero.1 hz y h1
      rw [h2] at this; cases this
  · intro k hk
    rw [and_zero]
    intro y hy
    cases hr : (ring l b k).testBit y with
    | false => rfl
    | true =>
      have := (ring_step hg hb k x).2 (.inr ⟨y, hy, hr⟩)
      have h3 := hlev.2 (k + 1) (by omega)
      rw [this] at h3; cases h3
theorem meet_low {l : List Nat} (hg : Good l) {b : Nat} (hb : InRows l b) {a i : Nat} (h : Meet l a b i) : low (a &&& ring l b i) < l.length := by
  have hB : B64 (a &&& ring l b i) := ((ring_in hg hb i).b64 hg).and'
  have hl := low_bit hB h.1
  rw [Nat.testBit_and, Bool.and_eq_true] at hl
  exact ring_in hg hb i _ hl.2
/-- The sets that rings hands back. -/
def rings (l : List Nat) (b k : Nat) : List Nat := (List.range (k + 1)).map (ring l b)
theorem rings_len (l : List Nat) (b k : Nat) : (rings l b k).length = k + 1 := by unfold rings; simp
theorem rings_snoc (l : List Nat) (b k : Nat) : rings l b (k + 1) = rings l b k ++ [ring l b (k + 1)] := by
  unfold rings; rw [List.range_succ, List.map_append]; rfl
theorem rings_at (l : List Nat) (b k j : Nat) (hj : j ≤ k) : rowAt (rings l b k) j = ring l b j := by
  unfold rowAt rings
  have : j < k + 1 := by omega
  simp [this]
/-- The fault of rows and two sets joined. -/
theorem fault_or {l : List Nat} {s t : Nat} (hb : Rows64 l) (hs : B64 s) (ht : B64 t) (h0 : faultOf l [] = 0) :
    (minus (s ||| t) (upTo l.length) = 0 ↔ faultOf l [s, t] = 0) ∧ (minus (s ||| t) (upTo l.length) ≠ 0 ↔ faultOf l [s, t] = 4) := by
  have hg := (faultOf_ok hb (by simp) h0).1
  have hf : faultOf l [s, t] = if inU l.length s && inU l.length t then 0 else 4 := by
    unfold faultOf at h0 ⊢
    split at h0
    · cases h0
    · rename_i hn
      rw [if_neg hn]
      split at h0
      · rename_i ha
        rw [List.append_nil] at ha
        rw [List.all_append, ha]
        simp
      · cases h0
  have hz : minus (s ||| t) (upTo l.length) = 0 ↔ (inU l.length s && inU l.length t) = true := by
    have h1 : minus (s ||| t) (upTo l.length) = 0 ↔ inU l.length (s ||| t) = true := by unfold inU; rw [decide_eq_true_eq]
    rw [h1, Bool.and_eq_true, inU_iff hg.1 (hs.or ht), inU_iff hg.1 hs, inU_iff hg.1 ht]
    constructor
    · intro h
      exact ⟨fun j hj => h j (by rw [Nat.testBit_or, hj]; rfl), fun j hj => h j (by rw [Nat.testBit_or, hj]; simp)⟩
    · rintro ⟨h1, h2⟩ j hj
      rw [Nat.testBit_or, Bool.or_eq_true] at hj
      rcases hj with h | h
      · exact h1 j h
      · exact h2 j h
  rw [hf]
  cases hc : (inU l.length s && inU l.length t) with
  | true => rw [hc] at hz; simp [hz]
  | false => rw [hc] at hz; simp [hz]
end Go.Proofs.YtonmkmghpiagjaaDoor
