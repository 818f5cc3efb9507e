/- Reasons, plain: a row of reasons, from the outside in; what is wrong with it; what holds. No condition. -/
import Derived.Test.YtecbdamimnllnaaDoorStalePlain
namespace Go.Proofs.YtecbdamimnllnaaDoor
open Go.RowKit

/-- One reason as it lies: number, cause, need, and the slice of what is within. -/
structure WV where
  n : Int
  c : Int
  k : Int
  A : Option Addr
  m : Nat
  cap : Nat
def WV.cs (e : WV) : List Value := [.int .i64 e.n, .int .i64 e.c, .int .i64 e.k, .slice e.A e.m e.cap]
def wvv (e : WV) : Value := .agg #[.int .i64 e.n, .int .i64 e.c, .int .i64 e.k, .slice e.A e.m e.cap]
def wcs (L : List WV) : List Value := L.flatMap WV.cs
theorem wcs_len (L : List WV) : (wcs L).length = L.length * 4 := by
  unfold wcs
  induction L with
  | nil => rfl
  | cons e L ih => rw [List.flatMap_cons, List.length_append, ih]; simp [WV.cs]; omega
theorem wcs_snoc (L : List WV) (e : WV) : wcs (L ++ [e]) = wcs L ++ e.cs := by unfold wcs; rw [List.flatMap_append]; simp
theorem wcs_at {L : List WV} {i : Nat} {e : WV} (h : L[i]? = some e) : (wcs L)[i * 4]? = some (.int .i64 e.n) ∧ (wcs L)[i * 4 + 1]? = some (.int .i64 e.c) ∧ (wcs L)[i * 4 + 2]? = some (.int .i64 e.k) ∧ (wcs L)[i * 4 + 3]? = some (.slice e.A e.m e.cap) := by
  induction L generalizing i with
  | nil => simp at h
  | cons t L ih =>
    cases i with
    | zero =>
      simp at h
      subst h
      exact ⟨rfl, rfl, rfl, rfl⟩
    | succ i =>
      simp at h
      obtain ⟨h1, h2, h3, h4⟩ := ih h
      have e0 : ∀ j, (wcs (t :: L))[(i + 1) * 4 + j]? = (wcs L)[i * 4 + j]? := fun j => by
        rw [show (i + 1) * 4 + j = i * 4 + j + 1 + 1 + 1 + 1 by omega, show wcs (t :: L) = .int .i64 t.n :: .int .i64 t.c :: .int .i64 t.k :: .slice t.A t.m t.cap :: wcs L from rfl]
        simp only [List.getElem?_cons_succ]
      refine ⟨by rw [show (i + 1) * 4 = (i + 1) * 4 + 0 from rfl, e0]; exact h1, by rw [e0]; exact h2, by rw [e0]; exact h3, by rw [e0]; exact h4⟩
/-- A row of reasons in memory: what is within each is the next one; the last one has none. -/
structure WhyCh (w : World) (L : List WV) : Prop where
  last : ∀ (i : Nat) (e : WV), L[i]? = some e → e.m = 0 → i + 1 = L.length
  next : ∀ (i : Nat) (e : WV), L[i]? = some e → e.m ≠ 0 → ∃ b off e', e.A = some ⟨b, off, none⟩ ∧ L[i + 1]? = some e' ∧ w.cell? ⟨b, off, none⟩ = some (.int .i64 e'.n) ∧ w.cell? ⟨b, off + 1, none⟩ = some (.int .i64 e'.c) ∧ w.cell? ⟨b, off + 2, none⟩ = some (.int .i64 e'.k) ∧ w.cell? ⟨b, off + 3, none⟩ = some (.slice e'.A e'.m e'.cap)
theorem wlt_of_cell {w : World} {b o : Nat} {v : Value} (h : w.cell? ⟨b, o, none⟩ = some v) : b < w.heap.size := by
  rcases Nat.lt_or_ge b w.heap.size with h' | h'
  · exact h'
  · simp [World.cell?, Array.getElem?_eq_none h'] at h
theorem WhyCh.below {w w' : World} {L : List WV} (h : WhyCh w L) (hb : Below w.heap.size w w') : WhyCh w' L := ⟨h.last, fun i e hi hm => by
  obtain ⟨b, off, e', h1, h2, h3, h4, h5, h6⟩ := h.next i e hi hm
  have key : ∀ {o : Nat} {v : Value}, w.cell? ⟨b, o, none⟩ = some v → w'.cell? ⟨b, o, none⟩ = some v := fun {o v} g => (hb.cell (p := ⟨b, o, none⟩) (wlt_of_cell g)).trans g
  exact ⟨b, off, e', h1, h2, key h3, key h4, key h5, key h6⟩⟩
/-- Has it as many within as it should? -/
def okW (e : WV) : Bool := decide (1 ≤ e.c) && decide (e.c ≤ 5) && decide (e.m = if e.c = 5 then 1 else 0)
theorem okW_iff {e : WV} : okW e = true ↔ 1 ≤ e.c ∧ e.c ≤ 5 ∧ e.m = if e.c = 5 then 1 else 0 := by
  unfold okW
  simp [and_assoc]
def allOk (L : List WV) : Bool := L.all okW
theorem allOk_snoc (L : List WV) (e : WV) : allOk (L ++ [e]) = (allOk L && okW e) := by unfold allOk; rw [List.all_append]; simp
/-- The number of the one behind. -/
def nxN (L : List WV) (i : Nat) : Int := match L[i + 1]? with | some e => e.n | none => 0
def inW (n : Nat) (e : WV) : Bool := decide (0 ≤ e.n) && decide (e.n < n) && decide (0 ≤ e.k) && decide (e.k < n)
/-- Does one reason hold, but for what is within? -/
def holdsB (l : List Nat) (T : List Int) (p m d : Nat) (e : WV) (nx : Int) : Bool :=
  inW l.length e && ((m ||| p).testBit e.n.toNat && (rsn l T p d (2 ^ 64 - 1) e.n.toNat e.c.toNat e.k.toNat && (decide (e.c ≠ 5) || decide (nx = e.k))))
def holdsL (l : List Nat) (T : List Int) (p m d : Nat) (L : List WV) : Bool := (List.range L.length).all fun i => match L[i]? with | some e => holdsB l T p m d e (nxN L i) | none => true
/-! ### Why a number is to be made anew -/
/-- The first cause, and need. -/
structure FoundR (l : List Nat) (T : List Int) (p d o x c k : Nat) : Prop where
  c1 : 1 ≤ c
  c5 : c ≤ 5
  kn : k < l.length
  is : rsn l T p d o x c k = true
  fc : ∀ c' k', 1 ≤ c' → c' < c → k' < l.length → rsn l T p d o x c' k' = false
  fk : ∀ k', k' < k → rsn l T p d o x c k' = false
inductive TellR (l : List Nat) (T : List Int) (p d o : Nat) : Nat → List (Nat × Nat × Nat) → Prop
  | stop {x c k : Nat} : FoundR l T p d o x c k → c < 5 → TellR l T p d o x [(x, c, k)]
  | go {x k : Nat} {R : List (Nat × Nat × Nat)} : FoundR l T p d o x 5 k → TellR l T p d o k R → TellR l T p d o x ((x, 5, k) :: R)
theorem FoundR.un {l : List Nat} {T : List Int} {p d o x c k c' k' : Nat} (h : FoundR l T p d o x c k) (h' : FoundR l T p d o x c' k') : c = c' ∧ k = k' := by
  have hc : c = c' := by
    rcases Nat.lt_trichotomy c c' with g | g | g
    · have := h'.fc c k h.c1 g h.kn
      rw [h.is] at this; cases this
    · exact g
    · have := h.fc c' k' h'.c1 g h'.kn
      rw [h'.is] at this; cases this
  subst hc
  refine ⟨rfl, ?_⟩
  rcases Nat.lt_trichotomy k k' with g | g | g
  · have := h'.fk k g
    rw [h.is] at this; cases this
  · exact g
  · have := h.fk k' g
    rw [h'.is] at this; cases this
theorem TellR.un {l : List Nat} {T : List Int} {p d o x : Nat} {R : List (Nat × Nat × Nat)} (h : TellR l T p d o x R) : ∀ {R'}, TellR l T p d o x R' → R = R' := by
  induction h with
  | stop hf hc =>
    intro R' h'
    cases h' with
    | stop hf' hc' => obtain ⟨rfl, rfl⟩ := hf.un hf'; rfl
    | go hf' _ => obtain ⟨rfl, rfl⟩ := hf.un hf'; omega
  | go hf _ ih =>
    intro R' h'
    cases h' with
    | stop hf' hc' => obtain ⟨rfl, rfl⟩ := hf.un hf'; omega
    | go hf' ht' =>
      obtain ⟨_, rfl⟩ := hf.un hf'
      rw [ih ht']
theorem first_least {P : Nat → Nat → Bool} {N : Nat} : ∀ C, (∃ c k, 1 ≤ c ∧ c < C ∧ k < N ∧ P c k = true) → ∃ c k, 1 ≤ c ∧ c < C ∧ k < N ∧ P c k = true ∧ (∀ c' k', 1 ≤ c' → c' < c → k' < N → P c' k' = false) ∧ ∀ k', k' < k → P c k' = false := by
  have lk : ∀ (c : Nat), (∃ k, k < N ∧ P c k = true) → ∃ k, k < N ∧ P c k = true ∧ ∀ k', k' < k → P c k' = false := fun c => by
    rintro ⟨k, hk, hp⟩
    induction k using Nat.strongRecOn with
    | ind k ih =>
      by_cases h : ∃ k', k' < k ∧ P c k' = true
      · obtain ⟨k', h1, h2⟩ := h
        exact ih k' h1 (by omega) h2
      · refine ⟨k, hk, hp, fun k' hk' => ?_⟩
        rw [Bool.eq_false_iff]
        exact fun hc => h ⟨k', hk', hc⟩
  intro C
  induction C with
  | zero => rintro ⟨c, k, h1, h2, _⟩; omega
  | succ C ih =>
    rintro ⟨c, k, h1, h2, h3, h4⟩
    by_cases h : ∃ c k, 1 ≤ c ∧ c < C ∧ k < N ∧ P c k = true
    · obtain ⟨c, k, g1, g2, g3⟩ := ih h
      exact ⟨c, k, g1, by omega, g3⟩
    · have hcC : c = C := by
        apply Classical.byContradiction
        intro hne
        exact h ⟨c, k, h1, by omega, h3, h4⟩
      subst hcC
      obtain ⟨k', g1, g2, g3⟩ := lk c ⟨k, h3, h4⟩
      refine ⟨c, k', h1, by omega, g1, g2, fun c' k'' q1 q2 q3 => ?_, g3⟩
      rw [Bool.eq_false_iff]
      exact fun hc => h ⟨c', k'', q1, q2, q3, hc⟩
section
variable {l : List Nat} {T : List Int} {p m d : Nat} (hg : Good l) (hr : ordR l = 0)
include hg hr
theorem found_of {x : Nat} (h : (staleS l T p m d).testBit x = true) : ∃ c k, FoundR l T p d (staleS l T p m d) x c k := by
  have hx := stale_in hg hr h
  rw [stale_at hg hr hx] at h
  unfold stC at h
  rw [Bool.and_eq_true] at h
  obtain ⟨c, k, h1, h2, h3, h4⟩ := now_rsn hg hx h.2
  obtain ⟨c', k', g1, g2, g3, g4, g5, g6⟩ := first_least (P := fun c k => rsn l T p d (staleS l T p m d) x c k) (N := l.length) 6 ⟨c, k, h1, by omega, h3, h4⟩
  exact ⟨c', k', g1, by omega, g3, g4, g5, g6⟩
omit hg hr in
theorem found_five {x k : Nat} (h : FoundR l T p d (staleS l T p m d) x 5 k) : (rowAt l x).testBit k = true ∧ (staleS l T p m d).testBit k = true := by
  have := h.is
  unfold rsn at this
  simpa using this
/-- Where it stands in the order. -/
theorem tell_of : ∀ (q x : Nat), (ordL l)[q]? = some x → (staleS l T p m d).testBit x = true → ∃ R, TellR l T p d (staleS l T p m d) x R := by
  intro q
  induction q using Nat.strongRecOn with
  | ind q ih =>
    intro x hq h
    obtain ⟨c, k, hf⟩ := found_of hg hr h
    by_cases hc : c < 5
    · exact ⟨_, .stop hf hc⟩
    · obtain rfl : c = 5 := by have := hf.c5; omega
      obtain ⟨h1, h2⟩ := found_five hf
      have hmem := ord_before hg hq h1
      obtain ⟨q', hq', hqj⟩ := List.mem_iff_getElem.1 hmem
      rw [List.length_take] at hq'
      rw [List.getElem_take] at hqj
      obtain ⟨R, hR⟩ := ih q' (by omega) k (by rw [← hqj]; exact List.getElem?_eq_getElem (by omega)) h2
      exact ⟨_, .go hf hR⟩
end
end Go.Proofs.YtecbdamimnllnaaDoor
