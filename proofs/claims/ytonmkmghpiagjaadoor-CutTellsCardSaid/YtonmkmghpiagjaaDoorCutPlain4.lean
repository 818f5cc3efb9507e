/- Plain law of package cut: no more ways than any cut has numbers; the rows without a cut; a way as a row. No condition. -/
import Derived.Test.YtonmkmghpiagjaaDoorCutPlain2
import Derived.Test.YtonmkmghpiagjaaDoorDomPlain3
namespace Go.Proofs.YtonmkmghpiagjaaDoor

section
variable {l : List Nat} {a b : Nat} {st : Fl}
theorem fs_ed (hf : FInv l a b st) {k : Nat} (hk : k ∈ st.fs) : Ed l a k ∧ k ≠ a ∧ k ≠ b := by
  have h1 := hf.fsv k hk
  obtain ⟨h2, h3, h4⟩ := hf.ah_cases h1
  rcases h4 with ⟨_, _, h4⟩ | ⟨h4, _⟩
  · exact ⟨h4, h2, h3⟩
  · exact absurd rfl h4
/-- A way meets each set that parts a from b. -/
theorem way_meets (hg : Good l) (hf : FInv l a b st) {C : List Nat} (ha : a ∉ C) (hb : b ∉ C) (hsep : ∀ v, Rch l a (fun v => v ∉ C) v → v ≠ b) {k : Nat} (hk : k ∈ st.fs) : ∃ j, LiveF b st k j ∧ itF st k j ∈ C := by
  apply Classical.byContradiction
  intro hc
  obtain ⟨m, hm0, _, hmb, hlive⟩ := way_ends hg hf hk
  have hno : ∀ j, j ≤ m → itF st k j ∉ C := fun j hj hin => by
    rcases Nat.lt_or_ge j m with h | h
    · exact hc ⟨j, hlive j h, hin⟩
    · obtain rfl : j = m := by omega
      rw [hmb] at hin
      exact hb hin
  have hr : ∀ j, j ≤ m → Rch l a (fun v => v ∉ C) (itF st k j) := fun j => by
    induction j with
    | zero => intro _; exact .step (.start ha) (fs_ed hf hk).1 (hno 0 (by omega))
    | succ j ih => intro hj; exact .step (ih (by omega)) (live_at hf hk j (hlive j (by omega))).ed (hno (j + 1) hj)
  exact hsep _ (hr m (Nat.le_refl _)) hmb
theorem ways_le (hg : Good l) (hf : FInv l a b st) {C : List Nat} (ha : a ∉ C) (hb : b ∉ C) (hsep : ∀ v, Rch l a (fun v => v ∉ C) v → v ≠ b) : st.fs.length ≤ C.length := by
  obtain ⟨f, hfk⟩ : ∃ f : Nat → Nat, ∀ k, k ∈ st.fs → ∃ i, LiveF b st k i ∧ itF st k i = f k ∧ f k ∈ C := by
    refine Classical.axiomOfChoice (r := fun k n => k ∈ st.fs → ∃ i, LiveF b st k i ∧ itF st k i = n ∧ n ∈ C) fun k => ?_
    by_cases h : k ∈ st.fs
    · obtain ⟨j, h1, h2⟩ := way_meets hg hf ha hb hsep h
      exact ⟨itF st k j, fun _ => ⟨j, h1, rfl, h2⟩⟩
    · exact ⟨0, fun h' => absurd h' h⟩
  have hnd : (st.fs.map f).Nodup := map_nodup f hf.fsn fun x hx y hy e => by
    obtain ⟨i, g1, g2, _⟩ := hfk x hx
    obtain ⟨j, q1, q2, _⟩ := hfk y hy
    exact (live_inj hf hx hy i j g1 q1 (by rw [g2, q2, e])).2
  have := pig2 _ C hnd (fun x hx => by
    obtain ⟨k, hk, rfl⟩ := List.mem_map.1 hx
    obtain ⟨_, _, _, h⟩ := hfk k hk
    exact h)
  rw [List.length_map] at this
  exact this
theorem ways_cut {st' : Fl} {R R' : Nat × Bool → Prop} (hg : Good l) (hf : FInv l a b st) (hs : Shut l a b st R) (hf' : FInv l a b st') (hs' : Shut l a b st' R') {C : List Nat} (hc : C.Nodup) (hm : ∀ n, n ∈ C ↔ CutS R' n) : st.fs.length = C.length := by
  have key : ∀ {s1 : Fl} {Q : Nat × Bool → Prop} {D : List Nat}, FInv l a b s1 → Shut l a b s1 Q → (∀ n, n ∈ D ↔ CutS Q n) → a ∉ D ∧ b ∉ D ∧ ∀ v, Rch l a (fun v => v ∉ D) v → v ≠ b := fun h1 h2 h3 => by
    refine ⟨fun h => (cut_ok h2 ((h3 _).1 h)).1 rfl, fun h => (cut_ok h2 ((h3 _).1 h)).2.1 rfl, fun v h => ?_⟩
    exact (cut_parts h1 h2 (rch_mono (fun x hx hc => hx ((h3 x).2 hc)) h)).1
  obtain ⟨h1, h2, h3⟩ := key hf' hs' hm
  apply Nat.le_antisymm
  · exact ways_le hg hf h1 h2 h3
  · rw [cut_count hg hf' hs' hc hm]
    obtain ⟨D, hD, hDm⟩ : ∃ D : List Nat, D.Nodup ∧ ∀ n, n ∈ D ↔ CutS R n := by
      classical
      refine ⟨(List.range l.length).filter fun n => decide (CutS R n), List.nodup_range.filter _, fun n => ?_⟩
      rw [List.mem_filter, List.mem_range]
      constructor
      · rintro ⟨_, h⟩; exact of_decide_eq_true h
      · intro h
        refine ⟨?_, decide_eq_true h⟩
        obtain ⟨_, _, g3⟩ := cut_ok hs h
        rcases hf.ahv n with g | ⟨x, g, _, _, g4⟩
        · have := g3.2; omega
        · rcases g4 with ⟨_, _, g5⟩ | ⟨_, g5⟩
          · exact hg.2 _ _ g5
          · exact hg.2 _ _ (hf.nx_cases g5).2.2.2.2
    obtain ⟨q1, q2, q3⟩ := key hf hs hDm
    rw [← cut_count hg hf hs hD hDm]
    exact ways_le hg hf' q1 q2 q3
/-- A way, as a row. -/
def wayC (a : Nat) (st : Fl) (k m : Nat) : List Nat := a :: (List.range (m + 1)).map (itF st k)
theorem wayC_len (a : Nat) (st : Fl) (k m : Nat) : (wayC a st k m).length = m + 2 := by simp [wayC]
theorem wayC_snoc (a : Nat) (st : Fl) (k m : Nat) : wayC a st k (m + 1) = wayC a st k m ++ [itF st k (m + 1)] := by
  unfold wayC
  rw [List.range_succ (n := m + 1), List.map_append, List.cons_append]
  rfl
theorem wayC_at {a : Nat} {st : Fl} {k m i : Nat} (h : i ≤ m) : (wayC a st k m)[i + 1]? = some (itF st k i) := by
  unfold wayC
  rw [List.getElem?_cons_succ, List.getElem?_map, List.getElem?_range (by omega)]
  rfl
/-- How a way goes. -/
structure Goes (l : List Nat) (a b : Nat) (st : Fl) (k m : Nat) : Prop where
  pos : 0 < m
  le : m ≤ l.length
  en : itF st k m = b
  live : ∀ j, j < m → LiveF b st k j
  inn : k ∈ st.fs
theorem goes_of (hg : Good l) (hf : FInv l a b st) {k : Nat} (hk : k ∈ st.fs) : ∃ m, Goes l a b st k m := by
  obtain ⟨m, h1, h2, h3, h4⟩ := way_ends hg hf hk
  exact ⟨m, h1, h2, h3, h4, hk⟩
theorem Goes.un {k m m' : Nat} (h : Goes l a b st k m) (h' : Goes l a b st k m') : m = m' := by
  rcases Nat.lt_trichotomy m m' with h1 | h1 | h1
  · exact absurd h.en (h'.live m h1 m (Nat.le_refl _))
  · exact h1
  · exact absurd h'.en (h.live m' h1 m' (Nat.le_refl _))
theorem Goes.lt (hg : Good l) (hf : FInv l a b st) {k m i : Nat} (h : Goes l a b st k m) (hi : i ≤ m) : itF st k i < l.length := by
  cases i with
  | zero => exact hg.2 _ _ (fs_ed hf h.inn).1
  | succ i => exact hg.2 _ _ (live_at hf h.inn i (h.live i (by omega))).ed
theorem Goes.inner (hf : FInv l a b st) {k m i : Nat} (h : Goes l a b st k m) (hi : i < m) : itF st k i ≠ a ∧ itF st k i ≠ b := by
  have := live_at hf h.inn i (h.live i hi)
  exact ⟨this.na, this.nb⟩
theorem Goes.nx (hf : FInv l a b st) {k m i : Nat} (h : Goes l a b st k m) (hi : i < m) : st.nx (itF st k i) = (itF st k (i + 1) : Int) := (live_at hf h.inn i (h.live i hi)).nx
theorem Goes.ed (hf : FInv l a b st) {k m i x y : Nat} (h : Goes l a b st k m) (hx : (wayC a st k m)[i]? = some x) (hy : (wayC a st k m)[i + 1]? = some y) : Ed l x y := by
  have hi : i + 1 < m + 2 := by
    rw [← wayC_len a st k m]
    rcases Nat.lt_or_ge (i + 1) (wayC a st k m).length with h1 | h1
    · exact h1
    · rw [List.getElem?_eq_none h1] at hy; cases hy
  rw [wayC_at (by omega)] at hy
  injection hy with hy
  cases i with
  | zero =>
    have hx' : some a = some x := hx
    injection hx' with hx'
    rw [← hx', ← hy]
    exact (fs_ed hf h.inn).1
  | succ i =>
    rw [wayC_at (by omega)] at hx
    injection hx with hx
    rw [← hx, ← hy]
    exact (live_at hf h.inn i (h.live i (by omega))).ed
end
/-- Rows without some numbers. -/
def withoutC (l C : List Nat) : List Nat := C.foldl withoutL l
theorem withoutC_snoc (l C : List Nat) (x : Nat) : withoutC l (C ++ [x]) = withoutL (withoutC l C) x := by unfold withoutC; rw [List.foldl_append]; rfl
theorem withoutC_ok {l : List Nat} (hg : Good l) : ∀ C : List Nat, (∀ x ∈ C, x < l.length) → Good (withoutC l C) ∧ (withoutC l C).length = l.length := by
  intro C
  induction C generalizing l with
  | nil => intro _; exact ⟨hg, rfl⟩
  | cons x C ih =>
    intro h
    have h1 := withoutL_good hg (h x (List.mem_cons_self ..))
    have h2 := withoutL_len l x
    obtain ⟨g1, g2⟩ := ih h1 (fun y hy => by rw [h2]; exact h y (List.mem_cons_of_mem _ hy))
    exact ⟨g1, by rw [← h2]; exact g2⟩
theorem withoutC_rch {l : List Nat} {a v : Nat} (hg : Good l) : ∀ C : List Nat, (∀ x ∈ C, x < l.length) → a ∉ C → Rch (withoutC l C) a (fun _ => True) v → Rch l a (fun x => x ∉ C) v := by
  intro C hC ha h
  have hrow : ∀ (C : List Nat) (l : List Nat), Good l → (∀ x ∈ C, x < l.length) → ∀ i j, Ed (withoutC l C) i j → Ed l i j ∧ j ∉ C := by
    intro C
    induction C with
    | nil => intro l _ _ i j h; exact ⟨h, by simp⟩
    | cons x C ih =>
      intro l hg hC i j h
      have hx := hC x (List.mem_cons_self ..)
      obtain ⟨h1, h2⟩ := ih (withoutL l x) (withoutL_good hg hx) (fun y hy => by rw [withoutL_len]; exact hC y (List.mem_cons_of_mem _ hy)) i j h
      have h3 : Ed l i j ∧ j ≠ x := by
        unfold Ed at h1
        have hi : i < l.length := by
          rcases Nat.lt_or_ge i l.length with h | h
          · exact h
          · rw [rowAt_ge (by rw [withoutL_len]; exact h)] at h1; simp at h1
        rw [rowAt_without hi] at h1
        unfold woRow at h1
        split at h1
        · simp at h1
        · rw [drop_bit (hg.b64 i) (by have := hg.1; omega)] at h1
          simp at h1
          exact h1
      refine ⟨h3.1, fun hc => ?_⟩
      rcases List.mem_cons.1 hc with hc | hc
      · exact h3.2 hc
      · exact h2 hc
  induction h with
  | start _ => exact .start ha
  | step _ h2 _ ih =>
    obtain ⟨h3, h4⟩ := hrow C l hg hC _ _ h2
    exact .step ih h3 h4
end Go.Proofs.YtonmkmghpiagjaaDoor
