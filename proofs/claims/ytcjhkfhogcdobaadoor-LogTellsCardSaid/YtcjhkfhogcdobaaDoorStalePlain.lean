/- What is to be made anew, plain: along the order, and as the least set that the causes close. -/
import Derived.Test.YtcjhkfhogcdobaaDoorOrdPlain
import Derived.Test.YtcjhkfhogcdobaaDoorGrPlain
namespace Go.Proofs.YtcjhkfhogcdobaaDoor

/-! ### A set that is built along a list -/
def foldS (c : Nat → Nat → Bool) (L : List Nat) : Nat := L.foldl (fun out n => if c out n then addN out n else out) 0
theorem foldS_snoc (c : Nat → Nat → Bool) (L : List Nat) (n : Nat) : foldS c (L ++ [n]) = if c (foldS c L) n then addN (foldS c L) n else foldS c L := by unfold foldS; rw [List.foldl_append]; rfl
theorem nodup_inj {L : List Nat} (hd : L.Nodup) {i j : Nat} {hi : i < L.length} {hj : j < L.length} (h : L[i]'hi = L[j]'hj) : i = j := by
  have := List.pairwise_iff_getElem.1 hd
  rcases Nat.lt_trichotomy i j with h1 | h1 | h1
  · exact absurd h (this i j hi hj h1)
  · exact h1
  · exact absurd h.symm (this j i hj hi h1)
theorem take_sn {L : List Nat} {k n : Nat} (h : L[k]? = some n) : L.take (k + 1) = L.take k ++ [n] := by rw [List.take_add_one, h]; rfl
theorem foldS_step (c : Nat → Nat → Bool) {L : List Nat} {k n : Nat} (h : L[k]? = some n) (j : Nat) : (foldS c (L.take (k + 1))).testBit j = ((foldS c (L.take k)).testBit j || (decide (n = j) && c (foldS c (L.take k)) n)) := by
  rw [take_sn h, foldS_snoc]
  cases hc : c (foldS c (L.take k)) n with
  | true => rw [if_pos rfl, addN_bit]; simp
  | false => rw [if_neg (by simp)]; simp
theorem foldS_sub (c : Nat → Nat → Bool) (L : List Nat) (j : Nat) : ∀ k, (foldS c (L.take k)).testBit j = true → j ∈ L.take k
  | 0, h => by simp [foldS] at h
  | k + 1, h => by
    cases hk : L[k]? with
    | none =>
      have hl := List.getElem?_eq_none_iff.1 hk
      rw [List.take_of_length_le (by omega)] at h ⊢
      rw [← List.take_of_length_le hl] at h ⊢
      exact foldS_sub c L j k h
    | some n =>
      rw [foldS_step c hk, Bool.or_eq_true, Bool.and_eq_true, decide_eq_true_eq] at h
      rw [take_sn hk, List.mem_append, List.mem_singleton]
      rcases h with h | ⟨h, _⟩
      · exact .inl (foldS_sub c L j k h)
      · exact .inr h.symm
theorem foldS_keep (c : Nat → Nat → Bool) {L : List Nat} (hd : L.Nodup) {j k : Nat} (hj : j ∈ L.take k) : ∀ d, (foldS c (L.take (k + d))).testBit j = (foldS c (L.take k)).testBit j
  | 0 => rfl
  | d + 1 => by
    cases hk : L[k + d]? with
    | none =>
      have hl := List.getElem?_eq_none_iff.1 hk
      rw [← foldS_keep c hd hj d, List.take_of_length_le (i := k + (d + 1)) (by omega), List.take_of_length_le hl]
    | some n =>
      rw [show k + (d + 1) = (k + d) + 1 from rfl, foldS_step c hk, foldS_keep c hd hj d]
      have hne : n ≠ j := fun e => by
        subst e
        obtain ⟨q, hq, hqj⟩ := List.mem_iff_getElem.1 hj
        rw [List.length_take] at hq
        rw [List.getElem_take] at hqj
        obtain ⟨h1, h2⟩ := List.getElem?_eq_some_iff.1 hk
        have := nodup_inj hd (hi := by omega) (hj := h1) (hqj.trans h2.symm)
        omega
      simp [hne]
theorem foldS_at (c : Nat → Nat → Bool) {L : List Nat} (hd : L.Nodup) {p n : Nat} (h : L[p]? = some n) : (foldS c L).testBit n = c (foldS c (L.take p)) n := by
  have hp := (List.getElem?_eq_some_iff.1 h).1
  have hm : n ∈ L.take (p + 1) := by rw [take_sn h]; simp
  have h1 := foldS_keep c hd hm (L.length - (p + 1))
  rw [show p + 1 + (L.length - (p + 1)) = L.length by omega, List.take_length] at h1
  rw [h1, foldS_step c h]
  have h0 : (foldS c (L.take p)).testBit n = false := by
    rw [Bool.eq_false_iff]
    intro hb
    have hmem := foldS_sub c L n p hb
    obtain ⟨q, hq, hqj⟩ := List.mem_iff_getElem.1 hmem
    rw [List.length_take] at hq
    rw [List.getElem_take] at hqj
    obtain ⟨h1, h2⟩ := List.getElem?_eq_some_iff.1 h
    have := nodup_inj hd (hi := by omega) (hj := h1) (hqj.trans h2.symm)
    omega
  rw [h0]
  simp

/-! ### What is stale -/
def tmI (A : List Int) (i : Nat) : Int := A[i]?.getD 0
/-- Has it a cause, seen what is stale so far? -/
def nowB (l : List Nat) (A : List Int) (p d out n : Nat) : Bool := decide (tmI A n < 0) || p.testBit n || decide (rowAt l n &&& (d ||| out) ≠ 0) || (nums (rowAt l n)).any (fun k => decide (tmI A n < tmI A k))
def stC (l : List Nat) (A : List Int) (p m d : Nat) (out n : Nat) : Bool := (m ||| p).testBit n && nowB l A p d out n
def staleS (l : List Nat) (A : List Int) (p m d : Nat) : Nat := foldS (stC l A p m d) (ordL l)
theorem and_ne {s t : Nat} : s &&& t ≠ 0 ↔ ∃ k, s.testBit k = true ∧ t.testBit k = true := by
  constructor
  · intro h
    apply Classical.byContradiction
    intro hn
    apply h
    apply set_ext
    intro j
    rw [Nat.testBit_and, Nat.zero_testBit, Bool.and_eq_false_iff]
    cases h1 : s.testBit j with
    | false => exact .inl rfl
    | true => exact .inr (by rw [Bool.eq_false_iff]; intro h2; exact hn ⟨j, h1, h2⟩)
  · rintro ⟨k, h1, h2⟩ h
    have := congrArg (Nat.testBit · k) h
    simp only [Nat.testBit_and, h1, h2, Nat.zero_testBit] at this
    cases this
theorem nowB_same {l : List Nat} (A : List Int) (p d n : Nat) {s t : Nat} (h : ∀ j, (rowAt l n).testBit j = true → s.testBit j = t.testBit j) : nowB l A p d s n = nowB l A p d t n := by
  unfold nowB
  have e : decide (rowAt l n &&& (d ||| s) ≠ 0) = decide (rowAt l n &&& (d ||| t) ≠ 0) := by
    rw [decide_eq_decide, and_ne, and_ne]
    constructor
    · rintro ⟨k, h1, h2⟩
      exact ⟨k, h1, by rw [Nat.testBit_or] at *; rw [← h k h1]; exact h2⟩
    · rintro ⟨k, h1, h2⟩
      exact ⟨k, h1, by rw [Nat.testBit_or] at *; rw [h k h1]; exact h2⟩
  rw [e]
section
variable {l : List Nat} {A : List Int} {p m d : Nat} (hg : Good l) (hr : ordR l = 0)
include hg hr
theorem stale_at {n : Nat} (hn : n < l.length) : (staleS l A p m d).testBit n = stC l A p m d (staleS l A p m d) n := by
  obtain ⟨q, hq⟩ := List.mem_iff_getElem?.1 ((ord_mem hg hr n).2 hn)
  unfold staleS
  rw [foldS_at _ (ord_nodup hg) hq]
  unfold stC
  congr 1
  refine nowB_same A p d n fun j hj => ?_
  have hm := ord_before hg hq hj
  have := foldS_keep (stC l A p m d) (ord_nodup hg) hm ((ordL l).length - q)
  have hql := (List.getElem?_eq_some_iff.1 hq).1
  rw [show q + ((ordL l).length - q) = (ordL l).length by omega, List.take_length] at this
  exact this.symm
theorem stale_in {n : Nat} (h : (staleS l A p m d).testBit n = true) : n < l.length := by
  unfold staleS at h
  rw [← List.take_length (l := ordL l)] at h
  have := foldS_sub _ _ _ _ h
  rw [List.take_length] at this
  exact (ord_mem hg hr n).1 this
theorem stale_b64 : B64 (staleS l A p m d) := B64.of_bits fun _ hj => Nat.lt_of_lt_of_le (stale_in hg hr hj) hg.1
end
/-! ### The least set -/
def rsn (l : List Nat) (A : List Int) (p d out i c k : Nat) : Bool :=
  if c = 1 then decide (k = 0) && decide (tmI A i < 0) else if c = 2 then decide (k = 0) && p.testBit i else if c = 3 then (rowAt l i).testBit k && d.testBit k
  else if c = 4 then (rowAt l i).testBit k && decide (tmI A i < tmI A k) else (rowAt l i).testBit k && out.testBit k
theorem rsn_now {l : List Nat} {A : List Int} {p d out i c k : Nat} (hb : B64 (rowAt l i)) (h : rsn l A p d out i c k = true) : nowB l A p d out i = true := by
  unfold rsn at h
  unfold nowB
  by_cases h1 : c = 1
  · rw [if_pos h1] at h
    simp at h
    simp [h.2]
  rw [if_neg h1] at h
  by_cases h2 : c = 2
  · rw [if_pos h2] at h
    simp at h
    simp [h.2]
  rw [if_neg h2] at h
  by_cases h3 : c = 3
  · rw [if_pos h3, Bool.and_eq_true] at h
    have : rowAt l i &&& (d ||| out) ≠ 0 := and_ne.2 ⟨k, h.1, by rw [Nat.testBit_or, h.2]; rfl⟩
    rw [decide_eq_true this]
    simp
  rw [if_neg h3] at h
  by_cases h4 : c = 4
  · rw [if_pos h4, Bool.and_eq_true, decide_eq_true_eq] at h
    have : (nums (rowAt l i)).any (fun k => decide (tmI A i < tmI A k)) = true := List.any_eq_true.2 ⟨k, (mem_nums hb).2 h.1, decide_eq_true h.2⟩
    rw [this]
    simp
  · rw [if_neg h4, Bool.and_eq_true] at h
    have : rowAt l i &&& (d ||| out) ≠ 0 := and_ne.2 ⟨k, h.1, by rw [Nat.testBit_or, h.2, Bool.or_true]⟩
    rw [decide_eq_true this]
    simp
theorem now_rsn {l : List Nat} {A : List Int} {p d out i : Nat} (hg : Good l) (hi : i < l.length) (h : nowB l A p d out i = true) : ∃ c k, 1 ≤ c ∧ c ≤ 5 ∧ k < l.length ∧ rsn l A p d out i c k = true := by
  unfold nowB at h
  rw [Bool.or_eq_true, Bool.or_eq_true, Bool.or_eq_true, decide_eq_true_eq, decide_eq_true_eq] at h
  rcases h with ((h | h) | h) | h
  · exact ⟨1, 0, by omega, by omega, by omega, by simp [rsn, h]⟩
  · exact ⟨2, 0, by omega, by omega, by omega, by simp [rsn, h]⟩
  · obtain ⟨k, h1, h2⟩ := and_ne.1 h
    have hk := hg.2 i k h1
    rw [Nat.testBit_or, Bool.or_eq_true] at h2
    rcases h2 with h2 | h2
    · exact ⟨3, k, by omega, by omega, hk, by simp [rsn, h1, h2]⟩
    · exact ⟨5, k, by omega, by omega, hk, by simp [rsn, h1, h2]⟩
  · obtain ⟨k, h1, h2⟩ := List.any_eq_true.1 h
    have h3 := (mem_nums (hg.b64 i)).1 h1
    exact ⟨4, k, by omega, by omega, hg.2 i k h3, by simp [rsn, h3, of_decide_eq_true h2]⟩
def SubS (s t : Nat) : Prop := ∀ j, s.testBit j = true → t.testBit j = true
theorem nowB_mono {l : List Nat} {A : List Int} {p d n : Nat} {s t : Nat} (hs : SubS s t) (h : nowB l A p d s n = true) : nowB l A p d t n = true := by
  unfold nowB at *
  rw [Bool.or_eq_true, Bool.or_eq_true, decide_eq_true_eq] at *
  rcases h with (h | h) | h
  · exact .inl (.inl h)
  · obtain ⟨k, h1, h2⟩ := and_ne.1 h
    refine .inl (.inr (and_ne.2 ⟨k, h1, ?_⟩))
    rw [Nat.testBit_or, Bool.or_eq_true] at *
    exact h2.imp id (hs k)
  · exact .inr h
section
variable {l : List Nat} {A : List Int} {p m d : Nat} (hg : Good l) (hr : ordR l = 0)
include hg hr
theorem stale_sound {out i c k : Nat} (hs : SubS out (staleS l A p m d)) (hi : i < l.length) (hm : (m ||| p).testBit i = true) (h : rsn l A p d out i c k = true) : (staleS l A p m d).testBit i = true := by
  rw [stale_at hg hr hi]
  unfold stC
  rw [hm, nowB_mono hs (rsn_now (hg.b64 i) h)]
  rfl
theorem stale_closed {out : Nat} (hs : SubS out (staleS l A p m d)) (hc : ∀ i, i < l.length → (m ||| p).testBit i = true → out.testBit i = false → ∀ c k, 1 ≤ c → c ≤ 5 → k < l.length → rsn l A p d out i c k = false) : out = staleS l A p m d := by
  have key : ∀ (q : Nat), ∀ n, (ordL l)[q]? = some n → (staleS l A p m d).testBit n = true → out.testBit n = true := by
    intro q
    induction q using Nat.strongRecOn with
    | ind q ih =>
      intro n hq hS
      have hn := stale_in hg hr hS
      rw [stale_at hg hr hn] at hS
      unfold stC at hS
      rw [Bool.and_eq_true] at hS
      cases ho : out.testBit n with
      | true => rfl
      | false =>
        have hnow : nowB l A p d out n = true := by
          rw [← hS.2]
          refine nowB_same A p d n fun j hj => ?_
          have hmem := ord_before hg hq hj
          obtain ⟨q', hq', hqj⟩ := List.mem_iff_getElem.1 hmem
          rw [List.length_take] at hq'
          rw [List.getElem_take] at hqj
          have hq2 : (ordL l)[q']? = some j := by rw [← hqj]; exact List.getElem?_eq_getElem (by omega)
          cases hSj : (staleS l A p m d).testBit j with
          | true => exact ih q' (by omega) j hq2 hSj
          | false =>
            rw [Bool.eq_false_iff]
            intro hb
            rw [hs j hb] at hSj
            cases hSj
        obtain ⟨c, k, h1, h2, h3, h4⟩ := now_rsn hg hn hnow
        rw [hc n hn hS.1 ho c k h1 h2 h3] at h4
        cases h4
  apply set_ext
  intro j
  cases hS : (staleS l A p m d).testBit j with
  | true =>
    obtain ⟨q, hq⟩ := List.mem_iff_getElem?.1 ((ord_mem hg hr j).2 (stale_in hg hr hS))
    exact key q j hq hS
  | false =>
    rw [Bool.eq_false_iff]
    intro hb
    rw [hs j hb] at hS
    cases hS
end
end Go.Proofs.YtcjhkfhogcdobaaDoor
/- What is seen of a graph, plain: what is wrong with it. -/
namespace Go.Proofs.YtcjhkfhogcdobaaDoor

def tOut (t : Int) : Bool := decide (t < -1) || decide (1099511627776 < t)
/-- A number that has no time and is not made. -/
def lone (T : List Int) (s i : Nat) : Bool := decide (tmI T i < 0) && !s.testBit i
def seErr (N : List (List UInt8)) (E : List EdgeT) (p m : Nat) (T : List Int) (d : Nat) : Int :=
  if grErr N E p m ≠ 0 then grErr N E p m else if T.length ≠ N.length then 1 else if T.any tOut = true then 4 else if minus d (upTo N.length) ≠ 0 then 4 else if ordR (rowsG N.length E) ≠ 0 then 8
  else if (List.range T.length).any (lone T (m ||| p)) = true then 5 else 0
section
variable {N : List (List UInt8)} {n j : Nat} (hn : N.length = n) {E : List EdgeT} {p m : Nat} {T : List Int} (hj : T.length = j) {d : Nat}
theorem seErr_gr (h : grErr N E p m ≠ 0) : seErr N E p m T d = grErr N E p m := by unfold seErr; rw [if_pos h]
include hn hj
theorem seErr_1 (h : grErr N E p m = 0) (h1 : j ≠ n) : seErr N E p m T d = 1 := by subst hn hj; unfold seErr; rw [if_neg (by simp [h]), if_pos h1]
theorem seErr_4 (h : grErr N E p m = 0) (h1 : j = n) (h2 : T.any tOut = true) : seErr N E p m T d = 4 := by subst hn hj; unfold seErr; rw [if_neg (by simp [h]), if_neg (by simp [h1]), if_pos h2]
theorem seErr_4b (h : grErr N E p m = 0) (h1 : j = n) (h2 : T.any tOut = false) (h3 : minus d (upTo n) ≠ 0) : seErr N E p m T d = 4 := by
  subst hn hj; unfold seErr; rw [if_neg (by simp [h]), if_neg (by simp [h1]), if_neg (by simp [h2]), if_pos h3]
theorem seErr_8 (h : grErr N E p m = 0) (h1 : j = n) (h2 : T.any tOut = false) (h3 : minus d (upTo n) = 0) (h4 : ordR (rowsG n E) ≠ 0) : seErr N E p m T d = 8 := by
  subst hn hj; unfold seErr; rw [if_neg (by simp [h]), if_neg (by simp [h1]), if_neg (by simp [h2]), if_neg (by simp [h3]), if_pos h4]
theorem seErr_5 (h : grErr N E p m = 0) (h1 : j = n) (h2 : T.any tOut = false) (h3 : minus d (upTo n) = 0) (h4 : ordR (rowsG n E) = 0) (h5 : (List.range j).any (lone T (m ||| p)) = true) : seErr N E p m T d = 5 := by
  subst hn hj; unfold seErr; rw [if_neg (by simp [h]), if_neg (by simp [h1]), if_neg (by simp [h2]), if_neg (by simp [h3]), if_neg (by simp [h4]), if_pos h5]
theorem seErr_0 (h : grErr N E p m = 0) (h1 : j = n) (h2 : T.any tOut = false) (h3 : minus d (upTo n) = 0) (h4 : ordR (rowsG n E) = 0) (h5 : (List.range j).any (lone T (m ||| p)) = false) : seErr N E p m T d = 0 := by
  subst hn hj; unfold seErr; rw [if_neg (by simp [h]), if_neg (by simp [h1]), if_neg (by simp [h2]), if_neg (by simp [h3]), if_neg (by simp [h4]), if_neg (by simp [h5])]
/-- What a right one is. -/
theorem se_ok (h : seErr N E p m T d = 0) : grErr N E p m = 0 ∧ j = n ∧ T.any tOut = false ∧ minus d (upTo n) = 0 ∧ ordR (rowsG n E) = 0 := by
  by_cases h0 : grErr N E p m = 0
  · by_cases h1 : j = n
    · cases h2 : T.any tOut with
      | true => rw [seErr_4 hn hj h0 h1 h2] at h; cases h
      | false =>
        by_cases h3 : minus d (upTo n) = 0
        · by_cases h4 : ordR (rowsG n E) = 0
          · exact ⟨h0, h1, rfl, h3, h4⟩
          · rw [seErr_8 hn hj h0 h1 h2 h3 h4] at h; cases h
        · rw [seErr_4b hn hj h0 h1 h2 h3] at h; cases h
    · rw [seErr_1 hn hj h0 h1] at h; cases h
  · rw [seErr_gr h0] at h
    exact absurd h h0
end
theorem tOut_any {T : List Int} {q : Nat} {t : Int} (h : T[q]? = some t) (ho : tOut t = true) : T.any tOut = true := List.any_eq_true.2 ⟨t, List.mem_of_getElem? h, ho⟩
theorem tOut_none {T : List Int} {k : Nat} (h : ∀ (j : Nat) (t : Int), j < k → T[j]? = some t → tOut t = false) (hk : T.length ≤ k) : T.any tOut = false := by
  rw [List.any_eq_false]
  intro e he
  obtain ⟨j, hj⟩ := List.mem_iff_getElem?.1 he
  have := (List.getElem?_eq_some_iff.1 hj).1
  rw [h j e (by omega) hj]
  simp
theorem lone_any {T : List Int} {s q j : Nat} (hq : q < j) (h : lone T s q = true) : (List.range j).any (lone T s) = true := List.any_eq_true.2 ⟨q, List.mem_range.2 hq, h⟩
theorem lone_none {T : List Int} {s j k : Nat} (h : ∀ q, q < k → lone T s q = false) (hk : j ≤ k) : (List.range j).any (lone T s) = false := by
  rw [List.any_eq_false]
  intro q hq
  rw [h q (by have := List.mem_range.1 hq; omega)]
  simp
theorem tOut_ways (t : Int) : (tOut t = true ∧ decide (t < -1) = true) ∨ (tOut t = true ∧ decide (t < -1) = false ∧ decide (1099511627776 < t) = true) ∨ (tOut t = false ∧ decide (t < -1) = false ∧ decide (1099511627776 < t) = false) := by
  unfold tOut
  cases h1 : decide (t < -1) <;> cases h2 : decide (1099511627776 < t) <;> simp
end Go.Proofs.YtcjhkfhogcdobaaDoor
/- The least set that the causes close, plain: what holds of each state of its search. -/
namespace Go.Proofs.YtcjhkfhogcdobaaDoor

section
variable (l : List Nat) (T : List Int) (p m d n : Nat)
def DoneA (o i c k : Nat) : Prop := ∀ i' c' k', i' < n → 1 ≤ c' → c' ≤ 5 → k' < n → (m ||| p).testBit i' = true → o.testBit i' = false → (i' < i ∨ (i' = i ∧ (c' < c ∨ (c' = c ∧ k' < k)))) → rsn l T p d o i' c' k' = false
/-- What holds on the way through one round, which began with o0. -/
def AnI (o0 o : Nat) (b : Bool) (i c k : Nat) : Prop := SubS o (staleS l T p m d) ∧ ((b = false ∧ o = o0 ∧ DoneA l T p m d n o i c k) ∨ (b = true ∧ (nums o0).length < (nums o).length))
end
section
variable {l : List Nat} {T : List Int} {p m d n : Nat} {o o0 i c k : Nat} {b : Bool}
theorem done_start : DoneA l T p m d n o 0 1 0 := fun i' c' k' _ h1 _ _ _ _ h => by omega
theorem done_skip (h : DoneA l T p m d n o i 1 0) (hs : (m ||| p).testBit i = false ∨ o.testBit i = true) : DoneA l T p m d n o (i + 1) 1 0 := fun i' c' k' h0 h1 h2 h3 h4 h5 h6 => by
  rcases (by omega : i' < i ∨ i' = i) with h7 | rfl
  · exact h i' c' k' h0 h1 h2 h3 h4 h5 (.inl h7)
  · rcases hs with hs | hs
    · rw [hs] at h4; cases h4
    · rw [hs] at h5; cases h5
theorem done_k (h : DoneA l T p m d n o i c k) (hr : o.testBit i = true ∨ rsn l T p d o i c k = false) : DoneA l T p m d n o i c (k + 1) := fun i' c' k' h0 h1 h2 h3 h4 h5 h6 => by
  by_cases h7 : i' < i ∨ (i' = i ∧ (c' < c ∨ (c' = c ∧ k' < k)))
  · exact h i' c' k' h0 h1 h2 h3 h4 h5 h7
  · obtain ⟨rfl, rfl, rfl⟩ : i' = i ∧ c' = c ∧ k' = k := by omega
    rcases hr with hr | hr
    · rw [hr] at h5; cases h5
    · exact hr
theorem done_c (h : DoneA l T p m d n o i c n) : DoneA l T p m d n o i (c + 1) 0 := fun i' c' k' h0 h1 h2 h3 h4 h5 h6 => h i' c' k' h0 h1 h2 h3 h4 h5 (by omega)
theorem done_i (h : DoneA l T p m d n o i 6 0) : DoneA l T p m d n o (i + 1) 1 0 := fun i' c' k' h0 h1 h2 h3 h4 h5 h6 => h i' c' k' h0 h1 h2 h3 h4 h5 (by omega)
theorem an_start (h : SubS o (staleS l T p m d)) : AnI l T p m d n o o false 0 1 0 := ⟨h, .inl ⟨rfl, rfl, done_start⟩⟩
theorem an_skip (h : AnI l T p m d n o0 o b i 1 0) (hs : (m ||| p).testBit i = false ∨ o.testBit i = true) : AnI l T p m d n o0 o b (i + 1) 1 0 := ⟨h.1, h.2.imp (fun h => ⟨h.1, h.2.1, done_skip h.2.2 hs⟩) id⟩
theorem an_k (h : AnI l T p m d n o0 o b i c k) (hr : o.testBit i = true ∨ rsn l T p d o i c k = false) : AnI l T p m d n o0 o b i c (k + 1) := ⟨h.1, h.2.imp (fun h => ⟨h.1, h.2.1, done_k h.2.2 hr⟩) id⟩
theorem an_c (h : AnI l T p m d n o0 o b i c n) : AnI l T p m d n o0 o b i (c + 1) 0 := ⟨h.1, h.2.imp (fun h => ⟨h.1, h.2.1, done_c h.2.2⟩) id⟩
theorem an_i (h : AnI l T p m d n o0 o b i 6 0) : AnI l T p m d n o0 o b (i + 1) 1 0 := ⟨h.1, h.2.imp (fun h => ⟨h.1, h.2.1, done_i h.2.2⟩) id⟩
theorem card_add (ho : B64 o) (hi : i < 64) (hb : o.testBit i = false) : (nums (addN o i)).length = (nums o).length + 1 := by
  have hs := addN_b64 ho hi
  have hbit : (addN o i).testBit i = true := by rw [addN_bit]; simp
  rw [drop_len hs hbit]
  have : drop (addN o i) i = o := by
    apply set_ext
    intro j
    rw [drop_bit hs hi, addN_bit]
    by_cases h : j = i
    · subst h; simp [hb]
    · have h' : i ≠ j := fun e => h e.symm
      simp [h, h']
  rw [this]
variable (hg : Good l) (hr0 : ordR l = 0)
include hg hr0
theorem an_add (h : AnI l T p m d n o0 o b i c k) (hi : i < l.length) (hM : (m ||| p).testBit i = true) (hr : rsn l T p d o i c k = true) (hb : o.testBit i = false) : AnI l T p m d n o0 (addN o i) true i c (k + 1) := by
  have hsub := h.1
  have hS := stale_sound (A := T) (p := p) (m := m) (d := d) hg hr0 hsub hi hM hr
  have hi64 : i < 64 := by have := hg.1; omega
  have hob : B64 o := B64.of_bits fun j hj => (stale_b64 (A := T) (p := p) (m := m) (d := d) hg hr0).bit (hsub j hj)
  refine ⟨fun j hj => ?_, .inr ⟨rfl, ?_⟩⟩
  · rw [addN_bit, Bool.or_eq_true, decide_eq_true_eq] at hj
    rcases hj with hj | rfl
    · exact hsub j hj
    · exact hS
  · rw [card_add hob hi64 hb]
    rcases h.2 with ⟨_, rfl, _⟩ | ⟨_, h⟩ <;> omega
theorem an_end (hn : l.length = n) (h : AnI l T p m d n o0 o false n 1 0) : o = staleS l T p m d := by
  rcases h.2 with ⟨_, _, hd⟩ | ⟨h, _⟩
  · subst hn
    exact stale_closed hg hr0 h.1 (fun i hi hM ho c k h1 h2 h3 => hd i c k hi h1 h2 h3 hM ho (.inl hi))
  · cases h
end
/-- How far the search is. -/
def anMeas : Value → Value → Nat
  | .int _ o, .bool b => 2 * (64 - (nums o.toNat).length) + (if b then 1 else 0)
  | _, _ => 0
theorem anMeas_lt {l : List Nat} {T : List Int} {p m d n o0 o : Nat} {b : Bool} {i c k : Nat} (h : AnI l T p m d n o0 o b i c k) : anMeas (.int .u64 (o : Nat)) (.bool b) < anMeas (.int .u64 (o0 : Nat)) (.bool true) := by
  have h1 := nums_len o
  have h2 := nums_len o0
  simp only [anMeas, Int.toNat_natCast]
  rcases h.2 with ⟨rfl, rfl, _⟩ | ⟨rfl, h⟩
  · simp
  · simp; omega
end Go.Proofs.YtcjhkfhogcdobaaDoor
