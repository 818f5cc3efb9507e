/- Levels of rows without a knot, plain. -/
import Derived.Test.YtiechbaknolimaaDoorOrdPlain
namespace Go.Proofs.YtiechbaknolimaaDoor

/-- One more than the greatest of g over a list, from m on. -/
def upOver (g : Nat → Nat) (m : Nat) (L : List Nat) : Nat := L.foldl (fun a k => max a (g k + 1)) m
theorem upOver_snoc (g : Nat → Nat) (m : Nat) (L : List Nat) (k : Nat) : upOver g m (L ++ [k]) = max (upOver g m L) (g k + 1) := by unfold upOver; rw [List.foldl_append]; rfl
theorem upOver_start (g : Nat → Nat) : ∀ (L : List Nat) (m : Nat), m ≤ upOver g m L
  | [], _ => Nat.le_refl _
  | k :: L, m => Nat.le_trans (Nat.le_max_left _ _) (upOver_start g L (max m (g k + 1)))
theorem upOver_mem (g : Nat → Nat) : ∀ (L : List Nat) (m k : Nat), k ∈ L → g k + 1 ≤ upOver g m L
  | [], _, _, h => by cases h
  | x :: L, m, k, h => by
    rcases List.mem_cons.1 h with rfl | h
    · exact Nat.le_trans (Nat.le_max_right _ _) (upOver_start g L _)
    · exact upOver_mem g L _ k h
theorem upOver_le (g : Nat → Nat) (B : Nat) : ∀ (L : List Nat) (m : Nat), m ≤ B → (∀ k ∈ L, g k + 1 ≤ B) → upOver g m L ≤ B
  | [], _, h, _ => h
  | x :: L, m, h, hL => upOver_le g B L _ (Nat.max_le.2 ⟨h, hL x (by simp)⟩) (fun k hk => hL k (by simp [hk]))
theorem upOver_congr (g g' : Nat → Nat) : ∀ (L : List Nat) (m : Nat), (∀ k ∈ L, g k = g' k) → upOver g m L = upOver g' m L
  | [], _, _ => rfl
  | x :: L, m, h => by
    unfold upOver
    rw [List.foldl_cons, List.foldl_cons, h x (by simp)]
    exact upOver_congr g g' L _ (fun k hk => h k (by simp [hk]))
/-- The longest way down from a number, of at most so many steps. -/
def lvl (l : List Nat) : Nat → Nat → Nat
  | 0, _ => 0
  | f + 1, i => upOver (lvl l f) 0 (nums (rowAt l i))
theorem lvl_up (l : List Nat) (f : Nat) : ∀ i, lvl l f i ≤ lvl l (f + 1) i := by
  induction f with
  | zero => intro i; exact Nat.zero_le _
  | succ f ih => exact fun i => upOver_le _ _ _ _ (Nat.zero_le _) (fun k hk => Nat.le_trans (Nat.succ_le_succ (ih k)) (upOver_mem (lvl l (f + 1)) _ 0 k hk))
theorem lvl_len (l : List Nat) (f : Nat) : ∀ i, lvl l f i ≤ f := by
  induction f with
  | zero => intro i; exact Nat.le_refl _
  | succ f ih => exact fun i => upOver_le _ _ _ _ (Nat.zero_le _) (fun k _ => Nat.succ_le_succ (ih k))
/-- Where the order goes through, the steps do not matter from some number on. -/
theorem lvl_stable {l : List Nat} (hg : Good l) : ∀ p i, (ordL l)[p]? = some i → ∀ f g, p ≤ f → p ≤ g → lvl l f i = lvl l g i := by
  intro p
  induction p using Nat.strongRecOn with
  | _ p ih =>
    intro i hi f g hf hgp
    have hrow : ∀ k ∈ nums (rowAt l i), ∃ q, q < p ∧ (ordL l)[q]? = some k := fun k hk => by
      have := (ordL_inv hg).before p i hi k ((mem_nums (hg.b64 i)).1 hk)
      obtain ⟨q, hq, hq2⟩ := List.mem_take_iff_getElem.1 this
      have hq' : q < min p (ordL l).length := hq
      exact ⟨q, by omega, by rw [List.getElem?_eq_getElem (show q < (ordL l).length by omega)]; exact congrArg some hq2⟩
    have hz : p = 0 → nums (rowAt l i) = [] := fun hp => by
      apply List.eq_nil_iff_forall_not_mem.2
      intro k hk
      obtain ⟨q, hq, _⟩ := hrow k hk
      omega
    cases f with
    | zero =>
      have hp : p = 0 := by omega
      cases g with
      | zero => rfl
      | succ g =>
        show 0 = upOver (lvl l g) 0 (nums (rowAt l i))
        rw [hz hp]; rfl
    | succ f =>
      cases g with
      | zero =>
        show upOver (lvl l f) 0 (nums (rowAt l i)) = 0
        rw [hz (by omega)]; rfl
      | succ g =>
        exact upOver_congr _ _ _ _ (fun k hk => by
          obtain ⟨q, hq, hq2⟩ := hrow k hk
          exact ih q hq k hq2 f g (by omega) (by omega))
theorem ord_mem {l : List Nat} (hg : Good l) (hr : ordR l = 0) (i : Nat) : i ∈ ordL l ↔ i < l.length := by
  have := (ordL_inv hg).mem i
  rw [show (ordL l, ordR l).1 = ordL l from rfl, show (ordL l, ordR l).2 = ordR l from rfl, hr] at this
  simpa using this
theorem ord_nodup {l : List Nat} (hg : Good l) : (ordL l).Nodup := (ordL_inv hg).nodup
theorem ord_before {l : List Nat} (hg : Good l) {p i j : Nat} (h : (ordL l)[p]? = some i) (hj : (rowAt l i).testBit j = true) : j ∈ (ordL l).take p := (ordL_inv hg).before p i h j hj
/-- The level. -/
def lvlN (l : List Nat) (i : Nat) : Nat := lvl l l.length i
theorem lvlN_eq {l : List Nat} (hg : Good l) (hr : ordR l = 0) {i : Nat} (hi : i < l.length) : lvlN l i = upOver (lvlN l) 0 (nums (rowAt l i)) := by
  obtain ⟨p, hp, hpi⟩ := List.mem_iff_getElem.1 ((ord_mem hg hr i).2 hi)
  have hlen := ord_len hg
  have := lvl_stable hg p i (by rw [List.getElem?_eq_getElem hp, hpi]) l.length (l.length + 1) (by omega) (by omega)
  exact this

/-! ### Levels, in order -/
def levO (l : List Nat) (t x : Nat) : Nat := if x ∈ (ordL l).take t then lvlN l x else 0
def levP (l : List Nat) (t i : Nat) (done : List Nat) (x : Nat) : Nat := if x = i then upOver (lvlN l) 0 done else levO l t x
theorem levP_nil {l : List Nat} (hg : Good l) {t i : Nat} (hi : (ordL l)[t]? = some i) (x : Nat) : levP l t i [] x = levO l t x := by
  unfold levP
  split
  · rename_i h
    subst h
    unfold levO
    rw [if_neg]
    · rfl
    · intro hm
      obtain ⟨q, hq, hq2⟩ := List.mem_take_iff_getElem.1 hm
      obtain ⟨ht, hi'⟩ := List.getElem?_eq_some_iff.1 hi
      have := (List.getElem_inj (ord_nodup hg) (h₀ := by omega) (h₁ := ht)).1 (hq2.trans hi'.symm)
      omega
  · rfl
theorem levP_set (l : List Nat) (t i : Nat) (done : List Nat) (k x : Nat) : (if x = i then max (upOver (lvlN l) 0 done) (lvlN l k + 1) else levP l t i done x) = levP l t i (done ++ [k]) x := by
  unfold levP
  rw [upOver_snoc]
  by_cases h : x = i <;> simp [h]
theorem levP_other {l : List Nat} (hg : Good l) {t i k : Nat} (hi : (ordL l)[t]? = some i) (done : List Nat) (hk : (rowAt l i).testBit k = true) : levP l t i done k = lvlN l k := by
  have hm := ord_before hg hi hk
  have hne : k ≠ i := fun e => by
    subst e
    obtain ⟨q, hq, hq2⟩ := List.mem_take_iff_getElem.1 hm
    obtain ⟨ht, hi'⟩ := List.getElem?_eq_some_iff.1 hi
    have := (List.getElem_inj (ord_nodup hg) (h₀ := by omega) (h₁ := ht)).1 (hq2.trans hi'.symm)
    omega
  unfold levP levO
  rw [if_neg hne, if_pos hm]
theorem levP_end {l : List Nat} (hg : Good l) (hr : ordR l = 0) {t i : Nat} (hi : (ordL l)[t]? = some i) (x : Nat) : levP l t i (nums (rowAt l i)) x = levO l (t + 1) x := by
  obtain ⟨ht, hi'⟩ := List.getElem?_eq_some_iff.1 hi
  have hil : i < l.length := (ord_mem hg hr i).1 (by rw [← hi']; exact List.getElem_mem ht)
  unfold levP
  rw [← lvlN_eq hg hr hil]
  unfold levO
  rw [List.take_add_one, hi]
  by_cases hx : x = i
  · subst hx; simp
  · simp [hx]
theorem levO_end {l : List Nat} (hg : Good l) (hr : ordR l = 0) {x : Nat} (hx : x < l.length) : levO l l.length x = lvlN l x := by
  unfold levO
  rw [if_pos]
  rw [List.take_of_length_le (ord_len hg)]
  exact (ord_mem hg hr x).2 hx

/-! ### Levels, round by round -/
/-- What holds behind t rounds, and of the next one i numbers. -/
def LevIn (l : List Nat) (t i : Nat) (f : Nat → Nat) : Prop := ∀ x, x < l.length → f x ≤ lvlN l x ∧ lvl l t x ≤ f x ∧ (x < i → lvl l (t + 1) x ≤ f x)
theorem levIn_start (l : List Nat) : LevIn l 0 0 (fun _ => 0) := fun x _ => ⟨Nat.zero_le _, Nat.le_refl _, fun h => by omega⟩
theorem levIn_round {l : List Nat} {t : Nat} {f : Nat → Nat} (h : LevIn l t l.length f) : LevIn l (t + 1) 0 f := fun x hx => ⟨(h x hx).1, (h x hx).2.2 hx, fun h => by omega⟩
theorem levIn_end {l : List Nat} {f : Nat → Nat} (h : LevIn l l.length 0 f) {x : Nat} (hx : x < l.length) : f x = lvlN l x := Nat.le_antisymm (h x hx).1 (h x hx).2.1
/-- While of i's row some have been looked at. -/
def LevAt (l : List Nat) (t i : Nat) (done : List Nat) (f : Nat → Nat) : Prop := LevIn l t i f ∧ ∀ k ∈ done, lvl l t k + 1 ≤ f i
theorem levAt_nil {l : List Nat} {t i : Nat} {f : Nat → Nat} (h : LevIn l t i f) : LevAt l t i [] f := ⟨h, fun k hk => by cases hk⟩
theorem levAt_step {l : List Nat} (hg : Good l) (hr : ordR l = 0) {t i k : Nat} {done : List Nat} {f : Nat → Nat} (hi : i < l.length) (h : LevAt l t i done f) (hk : (rowAt l i).testBit k = true) :
    LevAt l t i (done ++ [k]) (fun x => if x = i then max (f i) (f k + 1) else f x) := by
  have hkl := hg.2 i k hk
  have hkm : k ∈ nums (rowAt l i) := (mem_nums (hg.b64 i)).2 hk
  have htop : f k + 1 ≤ lvlN l i := by
    rw [lvlN_eq hg hr hi]
    exact Nat.le_trans (Nat.succ_le_succ (h.1 k hkl).1) (upOver_mem (lvlN l) _ 0 k hkm)
  refine ⟨fun x hx => ?_, fun q hq => ?_⟩
  · by_cases hxi : x = i
    · subst hxi
      simp only [if_pos]
      have := h.1 x hi
      exact ⟨Nat.max_le.2 ⟨this.1, htop⟩, Nat.le_trans this.2.1 (Nat.le_max_left _ _), fun hlt => by omega⟩
    · simp only [if_neg hxi]
      exact h.1 x hx
  · show lvl l t q + 1 ≤ if i = i then max (f i) (f k + 1) else f i
    rw [if_pos rfl]
    rcases List.mem_append.1 hq with hq | hq
    · exact Nat.le_trans (h.2 q hq) (Nat.le_max_left _ _)
    · rw [List.mem_singleton] at hq
      subst hq
      exact Nat.le_trans (Nat.succ_le_succ (h.1 q hkl).2.1) (Nat.le_max_right _ _)
theorem levAt_done {l : List Nat} {t i : Nat} {f : Nat → Nat} (h : LevAt l t i (nums (rowAt l i)) f) : LevIn l t (i + 1) f := fun x hx => ⟨(h.1 x hx).1, (h.1 x hx).2.1, fun hlt => by
  by_cases hxi : x = i
  · subst hxi
    exact upOver_le _ _ _ _ (Nat.zero_le _) h.2
  · exact (h.1 x hx).2.2 (by omega)⟩
end Go.Proofs.YtiechbaknolimaaDoor
