/- Plain law of package dom: the row of those that rule a number. No condition. -/
import Derived.Test.YtonmkmghpiagjaaDoorDomPlain4
namespace Go.Proofs.YtonmkmghpiagjaaDoor

/-- How many rule a number. -/
def cntR (l : List Nat) (root a : Nat) : Nat := (nums (ruledBy l root a)).length
/-- Those that rule n, the one that is ruled by fewer first. -/
def IsChain (l : List Nat) (root n : Nat) (C : List Nat) : Prop := C.Perm (nums (ruledBy l root n)) ∧ C.Pairwise (fun x y => cntR l root x < cntR l root y)
theorem ruledBy_in (l : List Nat) (root b : Nat) : InRows l (ruledBy l root b) := fun j hj => by
  unfold ruledBy at hj
  split at hj
  · rw [domS_bit] at hj; simp at hj; omega
  · simp at hj
theorem chain_one {l : List Nat} {root n : Nat} {C D : List Nat} (h1 : IsChain l root n C) (h2 : IsChain l root n D) : C = D :=
  List.Perm.eq_of_pairwise (le := fun x y => cntR l root x < cntR l root y) (fun x y _ _ h1 h2 => by omega) h1.2 h2.2 (h1.1.trans h2.1.symm)
section
variable {l : List Nat} {root n : Nat} (hg : Good l) (hr : root < l.length)
include hg hr
theorem mem_ruled {a : Nat} : a ∈ nums (ruledBy l root n) ↔ domR l root n = true ∧ a < l.length ∧ domA l root n a = true := by
  have _h := hr
  rw [mem_nums ((ruledBy_in l root n).b64 hg)]
  cases hd : domR l root n with
  | true =>
    rw [ruledBy_bit hd, Bool.and_eq_true, decide_eq_true_eq]
    simp
  | false =>
    have : ruledBy l root n = 0 := by unfold ruledBy; rw [hd]; rfl
    rw [this]
    simp
theorem ruled_len {a : Nat} (h : a ∈ nums (ruledBy l root n)) : a < l.length := ((mem_ruled hg hr).1 h).2.1
theorem ruled_come {a : Nat} (h : a ∈ nums (ruledBy l root n)) : domR l root a = true := by
  obtain ⟨h1, h2, h3⟩ := (mem_ruled hg hr).1 h
  exact (domR_iff hg hr).2 (dom_reached hg hr h2 ((domR_iff hg hr).1 h1) h3)
/-- Who rules one that rules n, rules n. -/
theorem ruled_up {a b : Nat} (ha : a ∈ nums (ruledBy l root n)) (hb : b ∈ nums (ruledBy l root a)) : b ∈ nums (ruledBy l root n) := by
  obtain ⟨h1, h2, h3⟩ := (mem_ruled hg hr).1 ha
  obtain ⟨g1, g2, g3⟩ := (mem_ruled hg hr).1 hb
  exact (mem_ruled hg hr).2 ⟨h1, g2, dom_trans hg hr g2 h2 g3 h3 (fun e => by subst e; exact dom_root hg hr g2 g3)⟩
theorem ruled_cnt {a b : Nat} (ha : domR l root a = true) (hal : a < l.length) (hb : b ∈ nums (ruledBy l root a)) (hne : b ≠ a) : cntR l root b < cntR l root a := by
  obtain ⟨_, g2, g3⟩ := (mem_ruled hg hr).1 hb
  have := dom_count hg hr g2 hal (ruled_come hg hr hb) ha g3 hne
  unfold cntR
  omega
theorem ruled_of_cnt {a b : Nat} (ha : a ∈ nums (ruledBy l root n)) (hb : b ∈ nums (ruledBy l root n)) (h : cntR l root b < cntR l root a ∨ b = a) : b ∈ nums (ruledBy l root a) := by
  obtain ⟨h1, h2, h3⟩ := (mem_ruled hg hr).1 ha
  obtain ⟨_, g2, g3⟩ := (mem_ruled hg hr).1 hb
  have hra := ruled_come hg hr ha
  have hrb := ruled_come hg hr hb
  rcases dom_chain hg hr h2 g2 ((domR_iff hg hr).1 h1) h3 g3 with e | e
  · by_cases hab : a = b
    · subst hab
      exact (mem_ruled hg hr).2 ⟨hra, h2, e⟩
    · have := dom_count hg hr h2 g2 hra hrb e hab
      unfold cntR at h
      rcases h with h | h
      · omega
      · exact absurd h.symm hab
  · exact (mem_ruled hg hr).2 ⟨hra, g2, e⟩
theorem cnt_apart {a b : Nat} (ha : a ∈ nums (ruledBy l root n)) (hb : b ∈ nums (ruledBy l root n)) (h : cntR l root a = cntR l root b) : a = b := by
  apply Classical.byContradiction
  intro hne
  obtain ⟨h1, h2, h3⟩ := (mem_ruled hg hr).1 ha
  obtain ⟨_, g2, g3⟩ := (mem_ruled hg hr).1 hb
  have hra := ruled_come hg hr ha
  have hrb := ruled_come hg hr hb
  unfold cntR at h
  rcases dom_chain hg hr h2 g2 ((domR_iff hg hr).1 h1) h3 g3 with e | e
  · have := dom_count hg hr h2 g2 hra hrb e hne
    omega
  · have := dom_count hg hr g2 h2 hrb hra e (fun e' => hne e'.symm)
    omega
/-- Is a the next one behind out? -/
def nextOk (out R : List Nat) (a : Nat) : Bool := R.all (fun b => decide (b = a) || decide (b ∈ out)) && out.all (fun c => decide (c ≠ a))
theorem next_iff {C : List Nat} (hC : IsChain l root n C) {k a : Nat} (hk : k < C.length) (ha : a ∈ C) : nextOk (C.take k) (nums (ruledBy l root a)) a = decide (a = C[k]) := by
  have hmem : ∀ x, x ∈ C ↔ x ∈ nums (ruledBy l root n) := fun x => hC.1.mem_iff
  have hlt := List.pairwise_iff_getElem.1 hC.2
  rw [Bool.eq_iff_iff, decide_eq_true_eq]
  unfold nextOk
  rw [Bool.and_eq_true, List.all_eq_true, List.all_eq_true]
  constructor
  · rintro ⟨h1, h2⟩
    obtain ⟨j, hj, rfl⟩ := List.mem_iff_getElem.1 ha
    have hkj : k ≤ j := by
      apply Classical.byContradiction
      intro hc
      have := h2 C[j] (List.mem_take_iff_getElem.2 ⟨j, by omega, rfl⟩)
      simp at this
    rcases Nat.eq_or_lt_of_le hkj with e | e
    · subst e; rfl
    · have hc := hlt k j hk hj e
      have hin := ruled_of_cnt hg hr ((hmem _).1 ha) ((hmem _).1 (List.getElem_mem hk)) (.inl hc)
      have := h1 _ hin
      simp only [Bool.or_eq_true, decide_eq_true_eq] at this
      rcases this with e2 | e2
      · rw [e2] at hc; omega
      · obtain ⟨i, hi, he⟩ := List.mem_take_iff_getElem.1 e2
        have := hlt i k (by omega) hk (by omega)
        rw [he] at this
        omega
  · intro he
    subst he
    constructor
    · intro b hb
      simp only [Bool.or_eq_true, decide_eq_true_eq]
      by_cases hba : b = C[k]
      · exact .inl hba
      · right
        have hbn := ruled_up hg hr ((hmem _).1 ha) hb
        obtain ⟨i, hi, rfl⟩ := List.mem_iff_getElem.1 ((hmem b).2 hbn)
        have hc := ruled_cnt hg hr (ruled_come hg hr ((hmem _).1 ha)) (ruled_len hg hr ((hmem _).1 ha)) hb hba
        refine List.mem_take_iff_getElem.2 ⟨i, ?_, rfl⟩
        have : i < k := by
          apply Classical.byContradiction
          intro hn
          rcases Nat.eq_or_lt_of_le (Nat.le_of_not_lt hn) with e | e
          · subst e; exact hba rfl
          · have := hlt k i hk hi e; omega
        omega
    · intro c hc
      obtain ⟨i, hi, rfl⟩ := List.mem_take_iff_getElem.1 hc
      have := hlt i k (by omega) hk (by omega)
      simp only [decide_eq_true_eq]
      intro e
      rw [e] at this
      omega
/-- The chain. -/
def domC (l : List Nat) (root n : Nat) : List Nat := (nums (ruledBy l root n)).mergeSort fun x y => decide (cntR l root x ≤ cntR l root y)
theorem chain_sorted {C : List Nat} (hp : C.Perm (nums (ruledBy l root n))) (hw : C.Pairwise (fun x y => cntR l root x ≤ cntR l root y)) : IsChain l root n C := by
  refine ⟨hp, ?_⟩
  have hnd : C.Nodup := hp.nodup_iff.2 (nums_nodup _)
  rw [List.pairwise_iff_getElem] at hw ⊢
  intro i j hi hj hij
  have h1 := hw i j hi hj hij
  rcases Nat.lt_or_ge (cntR l root C[i]) (cntR l root C[j]) with h | h
  · exact h
  · have := cnt_apart hg hr (hp.mem_iff.1 (List.getElem_mem hi)) (hp.mem_iff.1 (List.getElem_mem hj)) (by omega)
    have := (List.getElem_inj hnd).1 this
    omega
theorem domC_chain : IsChain l root n (domC l root n) := by
  refine chain_sorted hg hr (List.mergeSort_perm _ _) ?_
  have := List.pairwise_mergeSort (le := fun x y : Nat => decide (cntR l root x ≤ cntR l root y)) (fun a b c h1 h2 => by simp at *; omega) (fun a b => by simp; omega) (nums (ruledBy l root n))
  exact this.imp (fun h => by simpa using h)
end
theorem domC_len {l : List Nat} {root m : Nat} : (domC l root m).length = (nums (ruledBy l root m)).length := (List.mergeSort_perm _ _).length_eq
end Go.Proofs.YtonmkmghpiagjaaDoor
