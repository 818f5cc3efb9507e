/- Plain law of package cut, continued: the ways from their first numbers on, and as many numbers cut them. No condition. -/
import Derived.Test.YtonmkmghpiagjaaDoorCutPlain
namespace Go.Proofs.YtonmkmghpiagjaaDoor

theorem least_of {P : Nat → Prop} (h : ∃ i, P i) : ∃ i, P i ∧ ∀ j, j < i → ¬ P j := by
  obtain ⟨i, hi⟩ := h
  induction i using Nat.strongRecOn with
  | _ i ih =>
    by_cases hc : ∃ j, j < i ∧ P j
    · obtain ⟨j, h1, h2⟩ := hc
      exact ih j h1 h2
    · exact ⟨i, hi, fun j hj hp => hc ⟨j, hj, hp⟩⟩
theorem repeat_of {N : Nat} (f : Nat → Nat) (h : ∀ i, i ≤ N → f i < N) : ∃ i j, i < j ∧ j ≤ N ∧ f i = f j := by
  apply Classical.byContradiction
  intro hc
  have hnd : ((List.range (N + 1)).map f).Nodup := by
    rw [List.nodup_iff_pairwise_ne, List.pairwise_map]
    refine (List.pairwise_lt_range).imp_of_mem fun {i j} hi hj hij => ?_
    intro e
    exact hc ⟨i, j, hij, by rw [List.mem_range] at hj; omega, e⟩
  have h1 := pig2 _ (List.range N) hnd (fun x hx => by
    obtain ⟨i, hi, rfl⟩ := List.mem_map.1 hx
    rw [List.mem_range] at hi ⊢
    exact h i (by omega))
  rw [List.length_map, List.length_range, List.length_range] at h1
  omega
/-- i steps behind k. -/
def itF (st : Fl) (k : Nat) : Nat → Nat
  | 0 => k
  | i + 1 => (st.nx (itF st k i)).toNat
def ancF (st : Fl) (n : Nat) : Nat → Nat
  | 0 => n
  | i + 1 => (st.ah (ancF st n i)).toNat
def LiveF (b : Nat) (st : Fl) (k i : Nat) : Prop := ∀ j, j ≤ i → itF st k j ≠ b
section
variable {l : List Nat} {a b : Nat} {st : Fl}
theorem LiveF.le {k i j : Nat} (h : LiveF b st k i) (hj : j ≤ i) : LiveF b st k j := fun q hq => h q (by omega)
structure LiveAt (l : List Nat) (a b : Nat) (st : Fl) (k i : Nat) : Prop where
  na : itF st k i ≠ a
  nb : itF st k i ≠ b
  zero : i = 0 → st.ah (itF st k i) = (a : Int)
  pos : 0 < i → st.ah (itF st k i) = (itF st k (i - 1) : Int)
  nx : st.nx (itF st k i) = (itF st k (i + 1) : Int)
  ed : Ed l (itF st k i) (itF st k (i + 1))
  nna : itF st k (i + 1) ≠ a
theorem live_next (hf : FInv l a b st) {x : Nat} (hxa : x ≠ a) (hxb : x ≠ b) (h : 0 ≤ st.ah x) : st.nx x = ((st.nx x).toNat : Int) ∧ Ed l x (st.nx x).toNat ∧ (st.nx x).toNat ≠ a := by
  have h1 := (hf.use x hxa hxb).1 h
  rcases hf.nxv x with h2 | ⟨k, h2, _, _, h3, _, h4⟩
  · omega
  · have : (st.nx x).toNat = k := by omega
    rw [this]
    exact ⟨h2, h4, h3⟩
theorem live_at (hf : FInv l a b st) {k : Nat} (hk : k ∈ st.fs) : ∀ i, LiveF b st k i → LiveAt l a b st k i
  | 0, h => by
    have h1 := hf.fsv k hk
    have h2 := (hf.ah_cases h1).1
    have h3 : k ≠ b := h 0 (Nat.le_refl _)
    obtain ⟨h4, h5, h6⟩ := live_next hf h2 h3 (by rw [h1]; omega)
    exact ⟨h2, h3, fun _ => h1, fun h => absurd h (by omega), h4, h5, h6⟩
  | i + 1, h => by
    have ih := live_at hf hk i (h.le (by omega))
    have h3 : itF st k (i + 1) ≠ b := h (i + 1) (Nat.le_refl _)
    have h1 := hf.nxa _ _ ih.nx h3
    obtain ⟨h4, h5, h6⟩ := live_next hf ih.nna h3 (by rw [h1]; omega)
    exact ⟨ih.nna, h3, fun h => absurd h (by omega), fun _ => h1, h4, h5, h6⟩
theorem live_inj (hf : FInv l a b st) {k k' : Nat} (hk : k ∈ st.fs) (hk' : k' ∈ st.fs) : ∀ i j, LiveF b st k i → LiveF b st k' j → itF st k i = itF st k' j → i = j ∧ k = k'
  | 0, 0, _, _, e => ⟨rfl, e⟩
  | 0, j + 1, h, h', e => by
    have h1 := (live_at hf hk 0 h).zero rfl
    have h2 := (live_at hf hk' (j + 1) h').pos (by omega)
    rw [e, h2] at h1
    have := (live_at hf hk' j (h'.le (by omega))).na
    simp only [Nat.add_sub_cancel] at h1
    exact absurd (by omega) this
  | i + 1, 0, h, h', e => by
    have h1 := (live_at hf hk' 0 h').zero rfl
    have h2 := (live_at hf hk (i + 1) h).pos (by omega)
    rw [← e, h2] at h1
    have := (live_at hf hk i (h.le (by omega))).na
    simp only [Nat.add_sub_cancel] at h1
    exact absurd (by omega) this
  | i + 1, j + 1, h, h', e => by
    have h1 := (live_at hf hk (i + 1) h).pos (by omega)
    have h2 := (live_at hf hk' (j + 1) h').pos (by omega)
    rw [e, h2] at h1
    have h3 : itF st k i = itF st k' j := by
      simp only [Nat.add_sub_cancel] at h1
      omega
    obtain ⟨g1, g2⟩ := live_inj hf hk hk' i j (h.le (by omega)) (h'.le (by omega)) h3
    exact ⟨by omega, g2⟩
/-- A way ends. -/
theorem way_ends (hg : Good l) (hf : FInv l a b st) {k : Nat} (hk : k ∈ st.fs) : ∃ m, 0 < m ∧ m ≤ l.length ∧ itF st k m = b ∧ ∀ j, j < m → LiveF b st k j := by
  have h0 : ∃ m, itF st k m = b ∧ m ≤ l.length := by
    apply Classical.byContradiction
    intro hc
    have hlive : ∀ i, i ≤ l.length → LiveF b st k i := fun i hi j hj e => hc ⟨j, e, by omega⟩
    have hlt : ∀ i, i ≤ l.length → itF st k i < l.length := fun i hi => by
      cases i with
      | zero =>
        have h1 := hf.fsv k hk
        rcases (hf.ah_cases h1).2.2 with ⟨_, _, h2⟩ | ⟨h2, _⟩
        · exact hg.2 _ _ h2
        · exact absurd rfl h2
      | succ i => exact hg.2 _ _ (live_at hf hk i (hlive i (by omega))).ed
    obtain ⟨i, j, h1, h2, h3⟩ := repeat_of (itF st k) hlt
    have := (live_inj hf hk hk i j (hlive i (by omega)) (hlive j h2) h3).1
    omega
  obtain ⟨m, ⟨h1, h2⟩, h3⟩ := least_of h0
  refine ⟨m, ?_, h2, h1, fun j hj q hq e => h3 q (by omega) ⟨e, by omega⟩⟩
  rcases Nat.eq_zero_or_pos m with h4 | h4
  · subst h4
    have := (hf.ah_cases (hf.fsv k hk)).2.1
    exact absurd h1 this
  · exact h4
/-- Where nothing more can be come to. -/
structure Shut (l : List Nat) (a b : Nat) (st : Fl) (R : Nat × Bool → Prop) : Prop where
  go : R (a, true)
  cl : ∀ s t, R s → Nxt l a b st s t → R t
  nb : ¬ R (b, false)
def CutS (R : Nat × Bool → Prop) (n : Nat) : Prop := R (n, false) ∧ ¬ R (n, true)
variable {R : Nat × Bool → Prop}
theorem cut_ok (hs : Shut l a b st R) {n : Nat} (h : CutS R n) : n ≠ a ∧ n ≠ b ∧ usedF a st n := by
  have h1 : n ≠ a := fun e => h.2 (e ▸ hs.go)
  have h2 : n ≠ b := fun e => hs.nb (e ▸ h.1)
  refine ⟨h1, h2, Classical.byContradiction fun hu => h.2 (hs.cl _ _ h.1 (.thru h2 hu))⟩
theorem cut_parts (hf : FInv l a b st) (hs : Shut l a b st R) {v : Nat} (h : Rch l a (fun v => ¬ CutS R v) v) : v ≠ b ∧ R (v, true) := by
  induction h with
  | start _ => exact ⟨hf.nab, hs.go⟩
  | step _ he hn ih =>
    rename_i i j _
    by_cases hja : j = a
    · subst hja; exact ⟨hf.nab, hs.go⟩
    · have h1 : R (j, false) := hs.cl _ _ ih.2 (.fwd ih.1 he hja)
      refine ⟨fun e => hs.nb (e ▸ h1), Classical.byContradiction fun hc => hn ⟨h1, hc⟩⟩
theorem way_cut (hf : FInv l a b st) (hs : Shut l a b st R) {k m : Nat} (hk : k ∈ st.fs) (hm : itF st k m = b) (hl : ∀ j, j < m → LiveF b st k j) : ∃ j, j < m ∧ CutS R (itF st k j) := by
  have h0 : R (itF st k 0, false) := by
    have h1 := hf.fsv k hk
    obtain ⟨h2, _, h3⟩ := hf.ah_cases h1
    rcases h3 with ⟨_, _, h3⟩ | ⟨h3, _⟩
    · exact hs.cl _ _ hs.go (.fwd hf.nab h3 h2)
    · exact absurd rfl h3
  obtain ⟨i, h1, h2⟩ := least_of (P := fun i => ¬ R (itF st k i, false)) ⟨m, by rw [hm]; exact hs.nb⟩
  have hi : i ≤ m := by
    rcases Nat.lt_or_ge m i with h | h
    · exact absurd (by rw [hm]; exact hs.nb) (h2 m h)
    · exact h
  cases i with
  | zero => exact absurd h0 h1
  | succ i =>
    refine ⟨i, by omega, Classical.byContradiction fun hc => h2 i (by omega) hc, fun hr => ?_⟩
    have hL := live_at hf hk i (hl i (by omega))
    exact h1 (hs.cl _ _ hr (.fwd hL.nb hL.ed hL.nna))
theorem way_one (hf : FInv l a b st) (hs : Shut l a b st R) {k : Nat} (hk : k ∈ st.fs) : ∀ d i, LiveF b st k (i + d) → CutS R (itF st k (i + d)) → 0 < d → ¬ CutS R (itF st k i) := by
  have down : ∀ d i, LiveF b st k (i + d + 1) → R (itF st k (i + d + 1), false) → R (itF st k i, true) := by
    intro d
    induction d with
    | zero =>
      intro i h hr
      have h1 := live_at hf hk (i + 1) h
      have h2 := h1.pos (by omega)
      have h3 := live_at hf hk i (h.le (by omega))
      have h4 : st.ah (itF st k (i + 1)) = (itF st k i : Int) := h2
      exact hs.cl _ _ hr (.undo h1.nb (used_of h4 h1.na) h4 h3.na)
    | succ d ih =>
      intro i h hr
      have h1 := live_at hf hk (i + d + 2) h
      have h2 := h1.pos (by omega)
      have h3 := live_at hf hk (i + d + 1) (h.le (by omega))
      have h4 : st.ah (itF st k (i + d + 2)) = (itF st k (i + d + 1) : Int) := h2
      have h5 := hs.cl _ _ hr (.undo h1.nb (used_of h4 h1.na) h4 h3.na)
      have h6 : usedF a st (itF st k (i + d + 1)) := ⟨h3.na, by rw [h3.pos (by omega)]; omega⟩
      exact ih i (h.le (by omega)) (hs.cl _ _ h5 (.back h3.nb h6))
  intro d i h hc hd hc2
  obtain ⟨d', rfl⟩ : ∃ d', d = d' + 1 := ⟨d - 1, by omega⟩
  exact hc2.2 (down d' i h hc.1)
structure AncAt (a b : Nat) (st : Fl) (R : Nat × Bool → Prop) (n i : Nat) : Prop where
  na : ancF st n i ≠ a
  nb : ancF st n i ≠ b
  ah : 0 ≤ st.ah (ancF st n i)
  r : R (ancF st n i, false)
  up : 0 < i → R (ancF st n i, true) ∧ st.nx (ancF st n i) = (ancF st n (i - 1) : Int)
theorem anc_at (hf : FInv l a b st) (hs : Shut l a b st R) {n : Nat} (h : CutS R n) : ∀ i, (∀ j, j < i → st.ah (ancF st n j) ≠ (a : Int)) → AncAt a b st R n i
  | 0, _ => by
    obtain ⟨h1, h2, h3⟩ := cut_ok hs h
    exact ⟨h1, h2, h3.2, h.1, fun h => absurd h (by omega)⟩
  | i + 1, hj => by
    have ih := anc_at hf hs h i (fun j h => hj j (by omega))
    have e : st.ah (ancF st n i) = (ancF st n (i + 1) : Int) := by
      show _ = ((st.ah (ancF st n i)).toNat : Int)
      have := ih.ah
      omega
    have hna : ancF st n (i + 1) ≠ a := fun hc => hj i (by omega) (by rw [e, hc])
    obtain ⟨_, _, h3⟩ := hf.ah_cases e
    rcases h3 with ⟨h3, _⟩ | ⟨_, h3⟩
    · exact absurd h3 hna
    · obtain ⟨_, hnb, _⟩ := hf.nx_cases h3
      have hr := hs.cl _ _ ih.r (.undo ih.nb ⟨ih.na, ih.ah⟩ e hna)
      have hah : 0 ≤ st.ah (ancF st n (i + 1)) := (hf.use _ hna hnb).2 (by rw [h3]; omega)
      exact ⟨hna, hnb, hah, hs.cl _ _ hr (.back hnb ⟨hna, hah⟩), fun _ => ⟨hr, h3⟩⟩
theorem anc_back (hf : FInv l a b st) (hs : Shut l a b st R) {n : Nat} (h : CutS R n) {i : Nat} (hi : ∀ j, j < i → st.ah (ancF st n j) ≠ (a : Int)) : ∀ t, t ≤ i → itF st (ancF st n i) t = ancF st n (i - t)
  | 0, _ => rfl
  | t + 1, ht => by
    have ih := anc_back hf hs h hi t (by omega)
    show (st.nx (itF st (ancF st n i) t)).toNat = _
    have h1 := (anc_at hf hs h (i - t) (fun j hj => hi j (by omega))).up (by omega)
    rw [ih, h1.2]
    show ((ancF st n (i - t - 1) : Nat) : Int).toNat = _
    rw [Int.toNat_natCast, Nat.sub_sub]
/-- A number of the cut lies on a way. -/
theorem cut_way (hg : Good l) (hf : FInv l a b st) (hs : Shut l a b st R) {n : Nat} (h : CutS R n) : ∃ k i, k ∈ st.fs ∧ LiveF b st k i ∧ itF st k i = n := by
  have h0 : ∃ i, st.ah (ancF st n i) = (a : Int) := by
    apply Classical.byContradiction
    intro hc
    have hall : ∀ i, AncAt a b st R n i := fun i => anc_at hf hs h i (fun j _ e => hc ⟨j, e⟩)
    have hlt : ∀ i, i ≤ l.length → ancF st n i < l.length := fun i _ => by
      have := ((hall (i + 1)).up (by omega)).2
      exact hg.2 _ _ (hf.nx_cases this).2.2.2.2
    obtain ⟨i, j, h1, _, h3⟩ := repeat_of (ancF st n) hlt
    have hdown : ∀ i d, ancF st n i = ancF st n (i + d) → ancF st n 0 = ancF st n d := by
      intro i
      induction i with
      | zero => intro d e; rw [Nat.zero_add] at e; exact e
      | succ i ih =>
        intro d e
        have e1 := ((hall (i + 1)).up (by omega)).2
        have e2 := ((hall (i + 1 + d)).up (by omega)).2
        rw [← e, e1] at e2
        refine ih d ?_
        have e3 : i + 1 + d - 1 = i + d := by omega
        rw [e3] at e2
        simp only [Nat.add_sub_cancel] at e2
        omega
    have h4 := hdown i (j - i) (by rw [h3]; congr 1; omega)
    have h5 := ((hall (j - i)).up (by omega)).1
    rw [← h4] at h5
    exact h.2 h5
  obtain ⟨i, h1, h2⟩ := least_of h0
  have hk : ancF st n i ∈ st.fs := by
    rcases (hf.ah_cases h1).2.2 with ⟨_, h3, _⟩ | ⟨h3, _⟩
    · exact h3
    · exact absurd rfl h3
  refine ⟨ancF st n i, i, hk, fun j hj => ?_, ?_⟩
  · rw [anc_back hf hs h h2 j hj]
    exact (anc_at hf hs h (i - j) (fun q hq => h2 q (by omega))).nb
  · rw [anc_back hf hs h h2 i (Nat.le_refl _), Nat.sub_self]
    rfl
theorem map_nodup {α β : Type} {L : List α} (f : α → β) (hn : L.Nodup) (hi : ∀ x ∈ L, ∀ y ∈ L, f x = f y → x = y) : (L.map f).Nodup := by
  rw [List.nodup_iff_pairwise_ne, List.pairwise_map]
  exact hn.imp_of_mem fun {x y} hx hy hne e => hne (hi x hx y hy e)
/-- As many numbers as ways. -/
theorem cut_count (hg : Good l) (hf : FInv l a b st) (hs : Shut l a b st R) {C : List Nat} (hc : C.Nodup) (hm : ∀ n, n ∈ C ↔ CutS R n) : C.length = st.fs.length := by
  have h1 : ∀ k, k ∈ st.fs → ∃ n i, LiveF b st k i ∧ itF st k i = n ∧ CutS R n := fun k hk => by
    obtain ⟨m, _, _, hb, hl⟩ := way_ends hg hf hk
    obtain ⟨j, hj, h⟩ := way_cut hf hs hk hb hl
    exact ⟨_, j, hl j hj, rfl, h⟩
  have h2 : ∀ n, CutS R n → ∃ k i, k ∈ st.fs ∧ LiveF b st k i ∧ itF st k i = n := fun n h => cut_way hg hf hs h
  apply Nat.le_antisymm
  · obtain ⟨g, hgk⟩ : ∃ g : Nat → Nat, ∀ n, CutS R n → ∃ i, g n ∈ st.fs ∧ LiveF b st (g n) i ∧ itF st (g n) i = n := by
      refine Classical.axiomOfChoice (r := fun n k => CutS R n → ∃ i, k ∈ st.fs ∧ LiveF b st k i ∧ itF st k i = n) fun n => ?_
      by_cases h : CutS R n
      · obtain ⟨k, i, h3⟩ := h2 n h
        exact ⟨k, fun _ => ⟨i, h3⟩⟩
      · exact ⟨0, fun h' => absurd h' h⟩
    have hnd : (C.map g).Nodup := map_nodup g hc fun x hx y hy e => by
      have cx := (hm x).1 hx
      have cy := (hm y).1 hy
      obtain ⟨i, g1, g2, g3⟩ := hgk x cx
      obtain ⟨j, q1, q2, q3⟩ := hgk y cy
      rw [← e] at q1 q2 q3
      rcases Nat.lt_trichotomy i j with hij | hij | hij
      · exact absurd (by rw [g3]; exact cx) (way_one hf hs g1 (j - i) i (by rw [Nat.add_sub_cancel' (Nat.le_of_lt hij)]; exact q2) (by rw [Nat.add_sub_cancel' (Nat.le_of_lt hij), q3]; exact cy) (by omega))
      · rw [← g3, ← q3, hij]
      · exact absurd (by rw [q3]; exact cy) (way_one hf hs g1 (i - j) j (by rw [Nat.add_sub_cancel' (Nat.le_of_lt hij)]; exact g2) (by rw [Nat.add_sub_cancel' (Nat.le_of_lt hij), g3]; exact cx) (by omega))
    have := pig2 _ st.fs hnd (fun x hx => by
      obtain ⟨n, hn, rfl⟩ := List.mem_map.1 hx
      obtain ⟨_, h, _⟩ := hgk n ((hm n).1 hn)
      exact h)
    rw [List.length_map] at this
    exact this
  · obtain ⟨f, hfk⟩ : ∃ f : Nat → Nat, ∀ k, k ∈ st.fs → ∃ i, LiveF b st k i ∧ itF st k i = f k ∧ CutS R (f k) := by
      refine Classical.axiomOfChoice (r := fun k n => k ∈ st.fs → ∃ i, LiveF b st k i ∧ itF st k i = n ∧ CutS R n) fun k => ?_
      by_cases h : k ∈ st.fs
      · obtain ⟨n, i, h3⟩ := h1 k h
        exact ⟨n, fun _ => ⟨i, h3⟩⟩
      · exact ⟨0, fun h' => absurd h' h⟩
    have hnd : (st.fs.map f).Nodup := map_nodup f hf.fsn fun x hx y hy e => by
      obtain ⟨i, g1, g2, _⟩ := hfk x hx
      obtain ⟨j, q1, q2, _⟩ := hfk y hy
      exact (live_inj hf hx hy i j g1 q1 (by rw [g2, q2, e])).2
    have := pig2 _ C hnd (fun x hx => by
      obtain ⟨k, hk, rfl⟩ := List.mem_map.1 hx
      obtain ⟨_, _, _, h⟩ := hfk k hk
      exact (hm _).2 h)
    rw [List.length_map] at this
    exact this
end
end Go.Proofs.YtonmkmghpiagjaaDoor
