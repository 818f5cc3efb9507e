/- Plain law of package cut, the search: spots come to one from another, the walk read back, and what it changes. No condition. -/
import Derived.Test.YtonmkmghpiagjaaDoorCutPlain2
import Derived.Test.YtonmkmghpiagjaaDoorOrdPlain
namespace Go.Proofs.YtonmkmghpiagjaaDoor

abbrev Spt := Nat × Bool
def keysM (M : List (Spt × Spt)) : List Spt := M.map (·.1)
def putM (M : List (Spt × Spt)) (s by_ : Spt) : List (Spt × Spt) := if s ∈ keysM M then M else M ++ [(s, by_)]
structure SInv (l : List Nat) (a b : Nat) (st : Fl) (M : List (Spt × Spt)) (q : Nat) : Prop where
  hd : M[0]? = some ((a, true), (a, true))
  nd : (keysM M).Nodup
  tr : ∀ i t s, M[i + 1]? = some (t, s) → ∃ j by_, j ≤ i ∧ M[j]? = some (s, by_) ∧ Nxt l a b st s t
  cl : ∀ j s by_, j < q → M[j]? = some (s, by_) → ∀ t, Nxt l a b st s t → t ∈ keysM M
  nb : ∀ j s by_, j < q → M[j]? = some (s, by_) → s.1 ≠ b
  lt : ∀ s ∈ keysM M, s.1 < l.length
  qle : q ≤ M.length
theorem sInv_start (l : List Nat) {a b : Nat} (st : Fl) (ha : a < l.length) : SInv l a b st [((a, true), (a, true))] 0 :=
  ⟨rfl, by simp [keysM], fun i t s h => (by simp at h), fun j s by_ h => absurd h (by omega), fun j s by_ h => absurd h (by omega), fun s h => (by simp [keysM] at h; rw [h]; exact ha), Nat.zero_le _⟩
theorem keysM_snoc (M : List (Spt × Spt)) (e : Spt × Spt) : keysM (M ++ [e]) = keysM M ++ [e.1] := by unfold keysM; rw [List.map_append]; rfl
theorem keysM_at {M : List (Spt × Spt)} {i : Nat} {s t : Spt} (h : M[i]? = some (s, t)) : s ∈ keysM M := List.mem_map.2 ⟨_, List.mem_of_getElem? h, rfl⟩
theorem getElem?_lt {α : Type} {L : List α} {i : Nat} {x : α} (h : L[i]? = some x) : i < L.length := by
  rcases Nat.lt_or_ge i L.length with h1 | h1
  · exact h1
  · rw [List.getElem?_eq_none h1] at h; cases h
theorem putM_old {M : List (Spt × Spt)} {s by_ : Spt} (h : s ∈ keysM M) : putM M s by_ = M := by unfold putM; rw [if_pos h]
theorem putM_new {M : List (Spt × Spt)} {s by_ : Spt} (h : s ∉ keysM M) : putM M s by_ = M ++ [(s, by_)] := by unfold putM; rw [if_neg h]
theorem putM_mem (M : List (Spt × Spt)) (s by_ : Spt) : s ∈ keysM (putM M s by_) := by
  by_cases h : s ∈ keysM M
  · rw [putM_old h]; exact h
  · rw [putM_new h, keysM_snoc]; simp
theorem putM_sub {M : List (Spt × Spt)} {s by_ t : Spt} (h : t ∈ keysM M) : t ∈ keysM (putM M s by_) := by
  by_cases hs : s ∈ keysM M
  · rw [putM_old hs]; exact h
  · rw [putM_new hs, keysM_snoc]; exact List.mem_append_left _ h
theorem putM_at {M : List (Spt × Spt)} {s by_ : Spt} {i : Nat} {e : Spt × Spt} (h : M[i]? = some e) : (putM M s by_)[i]? = some e := by
  by_cases hs : s ∈ keysM M
  · rw [putM_old hs]; exact h
  · rw [putM_new hs, List.getElem?_append_left (getElem?_lt h)]; exact h
section
variable {l : List Nat} {a b : Nat} {st : Fl} {M : List (Spt × Spt)} {q : Nat}
theorem SInv.put (h : SInv l a b st M q) {s by_ t : Spt} (hs : M[q]? = some (s, by_)) (hn : Nxt l a b st s t) (ht : t.1 < l.length) : SInv l a b st (putM M t s) q := by
  by_cases hk : t ∈ keysM M
  · rw [putM_old hk]; exact h
  · have hq := getElem?_lt hs
    rw [putM_new hk]
    have hold : ∀ {i : Nat} {e : Spt × Spt}, i < M.length → (M ++ [(t, s)])[i]? = some e → M[i]? = some e := fun hi he => by rw [List.getElem?_append_left hi] at he; exact he
    refine ⟨?_, ?_, fun i t' s' he => ?_, fun j s' b' hj he t' hn' => ?_, fun j s' b' hj he => ?_, fun x hx => ?_, ?_⟩
    · rw [List.getElem?_append_left (by omega)]; exact h.hd
    · rw [keysM_snoc, List.nodup_append]
      exact ⟨h.nd, by simp, fun x hx y hy e => (by rw [List.mem_singleton] at hy; have e2 : y = t := hy; exact hk (by rw [← e2, ← e]; exact hx))⟩
    · rcases Nat.lt_or_ge (i + 1) M.length with hi | hi
      · obtain ⟨j, b', h1, h2, h3⟩ := h.tr i t' s' (hold hi he)
        exact ⟨j, b', h1, by rw [List.getElem?_append_left (by omega)]; exact h2, h3⟩
      · have hi2 := getElem?_lt he
        rw [List.length_append, List.length_singleton] at hi2
        rw [List.getElem?_append_right hi, show i + 1 - M.length = 0 by omega] at he
        simp at he
        obtain ⟨rfl, rfl⟩ := he
        exact ⟨q, by_, by omega, by rw [List.getElem?_append_left hq]; exact hs, hn⟩
    · rw [keysM_snoc]
      exact List.mem_append_left _ (h.cl j s' b' hj (hold (by omega) he) t' hn')
    · exact h.nb j s' b' hj (hold (by omega) he)
    · rw [keysM_snoc] at hx
      rcases List.mem_append.1 hx with hx | hx
      · exact h.lt x hx
      · rw [List.mem_singleton] at hx; rw [hx]; exact ht
    · rw [List.length_append]; have := h.qle; omega
theorem SInv.done (h : SInv l a b st M q) {s by_ : Spt} (hs : M[q]? = some (s, by_)) (hb : s.1 ≠ b) (hall : ∀ t, Nxt l a b st s t → t ∈ keysM M) : SInv l a b st M (q + 1) := by
  have hq := getElem?_lt hs
  refine ⟨h.hd, h.nd, h.tr, fun j s' b' hj he => ?_, fun j s' b' hj he => ?_, h.lt, hq⟩
  · by_cases hjq : j = q
    · subst hjq
      rw [hs] at he
      injection he with he
      injection he with he _
      subst he
      exact hall
    · exact h.cl j s' b' (by omega) he
  · by_cases hjq : j = q
    · subst hjq
      rw [hs] at he
      injection he with he
      injection he with he _
      subst he
      exact hb
    · exact h.nb j s' b' (by omega) he
theorem key_at {M : List (Spt × Spt)} {s : Spt} (hs : s ∈ keysM M) : ∃ (i : Nat) (by_ : Spt), M[i]? = some (s, by_) := by
  obtain ⟨⟨s', b'⟩, h1, rfl⟩ := List.mem_map.1 hs
  obtain ⟨i, hi⟩ := List.mem_iff_getElem?.1 h1
  exact ⟨i, b', hi⟩
/-- How many spots at most. -/
theorem SInv.len (h : SInv l a b st M q) : M.length ≤ 2 * l.length := by
  have h1 : (keysM M).length = M.length := List.length_map _
  have h2 := pig2 ((keysM M).map fun s => 2 * s.1 + (if s.2 then 1 else 0)) (List.range (2 * l.length)) (map_nodup _ h.nd (fun x _ y _ e => by
      obtain ⟨x1, x2⟩ := x
      obtain ⟨y1, y2⟩ := y
      simp only at e
      cases x2 <;> cases y2 <;> simp at e ⊢ <;> omega)) (fun x hx => by
    obtain ⟨s, hs, rfl⟩ := List.mem_map.1 hx
    have := h.lt s hs
    rw [List.mem_range]
    split <;> omega)
  rw [List.length_map, List.length_range] at h2
  omega
theorem SInv.no_in_a (h : SInv l a b st M q) : (a, false) ∉ keysM M := fun hc => by
  obtain ⟨i, b', hi⟩ := key_at hc
  cases i with
  | zero =>
    rw [h.hd] at hi
    injection hi with hi
    injection hi with hi _
    injection hi with _ hi
    cases hi
  | succ i =>
    obtain ⟨j, b2, _, _, hn⟩ := h.tr i _ _ hi
    cases hn with
    | fwd _ _ g => exact g rfl
    | back _ g => exact g.1 rfl
theorem SInv.at_a (h : SInv l a b st M q) {s : Spt} (hs : s ∈ keysM M) (ha : s.1 = a) : s = (a, true) := by
  obtain ⟨n, o⟩ := s
  simp only at ha
  subst ha
  cases o with
  | true => rfl
  | false => exact absurd hs h.no_in_a
/-- A spot of b's that was come to is its way in. -/
theorem SInv.at_b (h : SInv l a b st M q) (hf : FInv l a b st) {s : Spt} (hs : s ∈ keysM M) (hb : s.1 = b) : s = (b, false) := by
  obtain ⟨n, o⟩ := s
  simp only at hb
  subst hb
  cases o with
  | false => rfl
  | true =>
    exfalso
    obtain ⟨i, b', hi⟩ := key_at hs
    cases i with
    | zero =>
      rw [h.hd] at hi
      injection hi with hi
      injection hi with hi _
      injection hi with hi _
      exact hf.nab hi
    | succ i =>
      obtain ⟨j, b2, _, _, hn⟩ := h.tr i _ _ hi
      cases hn with
      | thru g _ => exact g rfl
      | undo _ _ g3 g4 =>
        rcases (hf.ah_cases g3).2.2 with ⟨e, _⟩ | ⟨_, e⟩
        · exact g4 e
        · exact (hf.nx_cases e).2.1 rfl
/-- What the search hands back. -/
structure SPost (l : List Nat) (a b : Nat) (st : Fl) (M : List (Spt × Spt)) : Prop where
  inv : ∃ q, SInv l a b st M q
  res : (b, false) ∈ keysM M ∨ Shut l a b st (fun s => s ∈ keysM M)
theorem sPost_found (h : SInv l a b st M q) (hf : FInv l a b st) {s by_ : Spt} (hs : M[q]? = some (s, by_)) (hb : s.1 = b) : SPost l a b st M :=
  ⟨⟨q, h⟩, .inl (h.at_b hf (keysM_at hs) hb ▸ keysM_at hs)⟩
theorem sPost_all (h : SInv l a b st M M.length) : SPost l a b st M := by
  refine ⟨⟨_, h⟩, ?_⟩
  by_cases hb : (b, false) ∈ keysM M
  · exact .inl hb
  · refine .inr ⟨keysM_at h.hd, fun s t hs hn => ?_, hb⟩
    obtain ⟨i, b', hi⟩ := key_at hs
    exact h.cl i s b' (getElem?_lt hi) hi t hn
/-- The walk read back: R so far, now at s. -/
structure TInv (l : List Nat) (a b : Nat) (st : Fl) (M : List (Spt × Spt)) (R : List Spt) (s : Spt) (i : Nat) : Prop where
  at_ : ∃ by_, M[i]? = some (s, by_)
  hd : (R ++ [s])[0]? = some (b, false)
  nd : R.Nodup
  pos : ∀ x ∈ R, ∃ (p : Nat) (by_ : Spt), M[p]? = some (x, by_) ∧ i < p
  ch : ∀ j x y, (R ++ [s])[j]? = some x → (R ++ [s])[j + 1]? = some y → Nxt l a b st y x
theorem tInv_start {i : Nat} {by_ : Spt} (h : M[i]? = some ((b, false), by_)) : TInv l a b st M [] (b, false) i :=
  ⟨⟨by_, h⟩, rfl, List.nodup_nil, fun x hx => (by cases hx), fun j x y _ h => (by simp at h)⟩
theorem key_pos (h : SInv l a b st M q) {i j : Nat} {s t t' : Spt} (hi : M[i]? = some (s, t)) (hj : M[j]? = some (s, t')) : i = j := by
  have h1 : (keysM M)[i]? = some s := by unfold keysM; rw [List.getElem?_map, hi]; rfl
  have h2 : (keysM M)[j]? = some s := by unfold keysM; rw [List.getElem?_map, hj]; rfl
  exact at_inj h.nd h1 h2
theorem TInv.step (hi : SInv l a b st M q) {R : List Spt} {s : Spt} {i : Nat} (h : TInv l a b st M R s i) (hs : s.1 ≠ a) {t : Spt} (ht : M[i]? = some (s, t)) : ∃ j, j < i ∧ TInv l a b st M (R ++ [s]) t j := by
  cases i with
  | zero =>
    rw [hi.hd] at ht
    injection ht with ht
    injection ht with ht _
    exact absurd (by rw [← ht]) hs
  | succ i =>
    obtain ⟨j, b', h1, h2, h3⟩ := hi.tr i s t ht
    refine ⟨j, by omega, ⟨b', h2⟩, ?_, ?_, fun x hx => ?_, fun k x y hx hy => ?_⟩
    · rw [List.getElem?_append_left (by simp)]; exact h.hd
    · rw [List.nodup_append]
      refine ⟨h.nd, by simp, fun x hx y hy e => ?_⟩
      rw [List.mem_singleton] at hy
      obtain ⟨p, b2, g1, g2⟩ := h.pos x hx
      rw [e, hy] at g1
      have := key_pos hi g1 ht
      omega
    · rcases List.mem_append.1 hx with hx | hx
      · obtain ⟨p, b2, g1, g2⟩ := h.pos x hx
        exact ⟨p, b2, g1, by omega⟩
      · rw [List.mem_singleton] at hx
        subst hx
        exact ⟨i + 1, t, ht, by omega⟩
    · rcases Nat.lt_trichotomy (k + 1) (R ++ [s]).length with hk | hk | hk
      · rw [List.getElem?_append_left hk] at hy
        rw [List.getElem?_append_left (by omega)] at hx
        exact h.ch k x y hx hy
      · rw [List.getElem?_append_right (by omega), hk, Nat.sub_self] at hy
        have hl : (R ++ [s]).length = R.length + 1 := by simp
        rw [List.getElem?_append_left (by omega), List.getElem?_append_right (by omega), show k - R.length = 0 by omega] at hx
        simp at hx hy
        rw [← hx, ← hy]
        exact h3
      · rw [List.getElem?_eq_none (by rw [List.length_append, List.length_singleton]; omega)] at hy
        cases hy
theorem TInv.last (hi : SInv l a b st M q) {R : List Spt} {s : Spt} {i : Nat} (h : TInv l a b st M R s i) (hs : s.1 = a) : s = (a, true) ∧ SWalk l a b st (R ++ [(a, true)]).reverse := by
  obtain ⟨b', hb⟩ := h.at_
  have hsa := hi.at_a (keysM_at hb) hs
  subst hsa
  refine ⟨rfl, ?_, ?_, ?_, fun j x y hx hy => ?_⟩
  · rw [List.reverse_append]; rfl
  · rw [List.getElem?_reverse (by simp), List.length_reverse]
    have : (R ++ [(a, true)]).length - 1 - ((R ++ [(a, true)]).length - 1) = 0 := by omega
    rw [this]
    exact h.hd
  · unfold List.Nodup
    rw [List.pairwise_reverse]
    have : (R ++ [(a, true)]).Nodup := by
      rw [List.nodup_append]
      refine ⟨h.nd, by simp, fun x hx y hy e => ?_⟩
      rw [List.mem_singleton] at hy
      obtain ⟨p, b2, g1, g2⟩ := h.pos x hx
      rw [e, hy] at g1
      have := key_pos hi g1 hb
      omega
    exact this.imp fun h e => h e.symm
  · have hjl := getElem?_lt hy
    rw [List.length_reverse] at hjl
    rw [List.getElem?_reverse (by omega)] at hx hy
    refine h.ch ((R ++ [(a, true)]).length - 1 - (j + 1)) y x hy ?_
    rw [show (R ++ [(a, true)]).length - 1 - (j + 1) + 1 = (R ++ [(a, true)]).length - 1 - j by omega]
    exact hx
end
def addO (s t : Spt) : List (Nat × Nat) := if s.1 = t.1 then [] else if s.2 = true ∧ t.2 = false then [(s.1, t.1)] else []
def dropO (s t : Spt) : List (Nat × Nat) := if s.1 = t.1 then [] else if s.2 = true ∧ t.2 = false then [] else [(t.1, s.1)]
def pairO (f : Spt → Spt → List (Nat × Nat)) (p : List Spt) (i : Nat) : List (Nat × Nat) := match p[i]?, p[i + 1]? with
  | some s, some t => f s t
  | _, _ => []
def pairsL (f : Spt → Spt → List (Nat × Nat)) (p : List Spt) : Nat → List (Nat × Nat)
  | 0 => []
  | i + 1 => pairsL f p i ++ pairO f p i
theorem pairO_at {f : Spt → Spt → List (Nat × Nat)} {p : List Spt} {i : Nat} {s t : Spt} (hs : p[i]? = some s) (ht : p[i + 1]? = some t) : pairO f p i = f s t := by unfold pairO; rw [hs, ht]
theorem pairsL_mem {f : Spt → Spt → List (Nat × Nat)} {p : List Spt} {d : Nat × Nat} : ∀ k, k + 1 ≤ p.length → (d ∈ pairsL f p k ↔ ∃ i s t, i < k ∧ p[i]? = some s ∧ p[i + 1]? = some t ∧ d ∈ f s t)
  | 0, _ => by
    constructor
    · intro h; cases h
    · rintro ⟨i, _, _, h, _⟩; omega
  | k + 1, hk => by
    have h1 : p[k]? = some (p[k]'(by omega)) := List.getElem?_eq_getElem _
    have h2 : p[k + 1]? = some (p[k + 1]'(by omega)) := List.getElem?_eq_getElem _
    unfold pairsL
    rw [List.mem_append, pairsL_mem k (by omega), pairO_at h1 h2]
    constructor
    · rintro (⟨i, s, t, g1, g2⟩ | g)
      · exact ⟨i, s, t, by omega, g2⟩
      · exact ⟨k, _, _, by omega, h1, h2, g⟩
    · rintro ⟨i, s, t, g1, g2, g3, g4⟩
      by_cases hik : i = k
      · subst hik
        rw [h1] at g2
        rw [h2] at g3
        injection g2 with g2
        injection g3 with g3
        subst g2 g3
        exact .inr g4
      · exact .inl ⟨i, s, t, by omega, g2, g3, g4⟩
section
variable {l : List Nat} {a b : Nat} {st : Fl} {p : List Spt}
theorem adds_iff (h : SWalk l a b st p) {x k : Nat} : (x, k) ∈ pairsL addO p (p.length - 1) ↔ AddE p x k := by
  have hl := getElem?_lt h.hd
  rw [pairsL_mem _ (by omega)]
  constructor
  · rintro ⟨i, s, t, _, h1, h2, h3⟩
    unfold addO at h3
    by_cases he : s.1 = t.1
    · rw [if_pos he] at h3; cases h3
    · rw [if_neg he] at h3
      by_cases hc : s.2 = true ∧ t.2 = false
      · rw [if_pos hc, List.mem_singleton] at h3
        injection h3 with e1 e2
        obtain ⟨s1, s2⟩ := s
        obtain ⟨t1, t2⟩ := t
        simp only at hc e1 e2 he
        obtain ⟨rfl, rfl⟩ := hc
        subst e1 e2
        exact ⟨i, h1, h2, he⟩
      · rw [if_neg hc] at h3; cases h3
  · rintro ⟨i, h1, h2, h3⟩
    refine ⟨i, _, _, ?_, h1, h2, ?_⟩
    · have := getElem?_lt h2; omega
    · unfold addO; simp [h3]
theorem drops_iff (h : SWalk l a b st p) {n m : Nat} : (n, m) ∈ pairsL dropO p (p.length - 1) ↔ DropE p n m := by
  have hl := getElem?_lt h.hd
  rw [pairsL_mem _ (by omega)]
  constructor
  · rintro ⟨i, s, t, _, h1, h2, h3⟩
    unfold dropO at h3
    by_cases he : s.1 = t.1
    · rw [if_pos he] at h3; cases h3
    · rw [if_neg he] at h3
      by_cases hc : s.2 = true ∧ t.2 = false
      · rw [if_pos hc] at h3; cases h3
      · rw [if_neg hc, List.mem_singleton] at h3
        injection h3 with e1 e2
        have hn := h.ch i s t h1 h2
        cases hn with
        | fwd _ _ _ => exact absurd ⟨rfl, rfl⟩ hc
        | back _ _ => exact absurd rfl he
        | thru _ _ => exact absurd rfl he
        | undo _ _ _ _ =>
          simp only at e1 e2 he
          subst e1 e2
          exact ⟨i, h1, h2, fun e => he e.symm⟩
  · rintro ⟨i, h1, h2, h3⟩
    refine ⟨i, _, _, ?_, h1, h2, ?_⟩
    · have := getElem?_lt h2; omega
    · unfold dropO
      have h3' : ¬ m = n := fun e => h3 e.symm
      simp [h3']
def dropF (st : Fl) (d : Nat × Nat) : Fl := ⟨setF st.nx d.1 (-1), setF st.ah d.2 (-1), st.fs⟩
def addF (a b : Nat) (st : Fl) (d : Nat × Nat) : Fl := ⟨if d.1 = a then st.nx else setF st.nx d.1 (d.2 : Nat), if d.2 = b then st.ah else setF st.ah d.2 (d.1 : Nat), if d.1 = a then st.fs ++ [d.2] else st.fs⟩
theorem drops_nx : ∀ (L : List (Nat × Nat)) (st : Fl) (n : Nat), ((∃ m, (n, m) ∈ L) → (L.foldl dropF st).nx n = -1) ∧ ((∀ m, (n, m) ∉ L) → (L.foldl dropF st).nx n = st.nx n)
  | [], st, n => ⟨fun ⟨_, h⟩ => (by cases h), fun _ => rfl⟩
  | d :: L, st, n => by
    obtain ⟨h1, h2⟩ := drops_nx L (dropF st d) n
    rw [List.foldl_cons]
    by_cases hL : ∃ m, (n, m) ∈ L
    · refine ⟨fun _ => h1 hL, fun h => ?_⟩
      obtain ⟨m, hm⟩ := hL
      exact absurd (List.mem_cons_of_mem _ hm) (h m)
    · have hL' : ∀ m, (n, m) ∉ L := fun m hm => hL ⟨m, hm⟩
      rw [h2 hL']
      show (_ → setF st.nx d.1 (-1) n = -1) ∧ (_ → setF st.nx d.1 (-1) n = st.nx n)
      by_cases hd : n = d.1
      · subst hd
        refine ⟨fun _ => setF_self _ _ _, fun h => absurd (List.mem_cons_self ..) (h d.2)⟩
      · rw [setF_other hd]
        refine ⟨fun ⟨m, hm⟩ => ?_, fun _ => rfl⟩
        rcases List.mem_cons.1 hm with hm | hm
        · exact absurd (by rw [← hm]) hd
        · exact absurd hm (hL' m)
theorem drops_ah : ∀ (L : List (Nat × Nat)) (st : Fl) (m : Nat), ((∃ n, (n, m) ∈ L) → (L.foldl dropF st).ah m = -1) ∧ ((∀ n, (n, m) ∉ L) → (L.foldl dropF st).ah m = st.ah m)
  | [], st, n => ⟨fun ⟨_, h⟩ => (by cases h), fun _ => rfl⟩
  | d :: L, st, n => by
    obtain ⟨h1, h2⟩ := drops_ah L (dropF st d) n
    rw [List.foldl_cons]
    by_cases hL : ∃ m, (m, n) ∈ L
    · refine ⟨fun _ => h1 hL, fun h => ?_⟩
      obtain ⟨m, hm⟩ := hL
      exact absurd (List.mem_cons_of_mem _ hm) (h m)
    · have hL' : ∀ m, (m, n) ∉ L := fun m hm => hL ⟨m, hm⟩
      rw [h2 hL']
      show (_ → setF st.ah d.2 (-1) n = -1) ∧ (_ → setF st.ah d.2 (-1) n = st.ah n)
      by_cases hd : n = d.2
      · subst hd
        refine ⟨fun _ => setF_self _ _ _, fun h => absurd (List.mem_cons_self ..) (h d.1)⟩
      · rw [setF_other hd]
        refine ⟨fun ⟨m, hm⟩ => ?_, fun _ => rfl⟩
        rcases List.mem_cons.1 hm with hm | hm
        · exact absurd (by rw [← hm]) hd
        · exact absurd hm (hL' m)
theorem drops_fs : ∀ (L : List (Nat × Nat)) (st : Fl), (L.foldl dropF st).fs = st.fs
  | [], _ => rfl
  | d :: L, st => by rw [List.foldl_cons, drops_fs L]; rfl
theorem adds_nx : ∀ (L : List (Nat × Nat)) (st : Fl) (n : Nat), (∀ k, (n, k) ∈ L → n ≠ a → (∀ k', (n, k') ∈ L → k' = k) → (L.foldl (addF a b) st).nx n = (k : Int)) ∧ ((n = a ∨ ∀ k, (n, k) ∉ L) → (L.foldl (addF a b) st).nx n = st.nx n)
  | [], st, n => ⟨fun _ h => (by cases h), fun _ => rfl⟩
  | d :: L, st, n => by
    obtain ⟨h1, h2⟩ := adds_nx L (addF a b st d) n
    rw [List.foldl_cons]
    constructor
    · intro k hk hna hu
      by_cases hL : (n, k) ∈ L
      · exact h1 k hL hna (fun k' hk' => hu k' (List.mem_cons_of_mem _ hk'))
      · have hL' : ∀ k', (n, k') ∉ L := fun k' hk' => hL (hu k' (List.mem_cons_of_mem _ hk') ▸ hk')
        rw [h2 (.inr hL')]
        have hd : (n, k) = d := (List.mem_cons.1 hk).resolve_right hL
        subst hd
        show (if n = a then st.nx else setF st.nx n (k : Nat)) n = _
        rw [if_neg hna, setF_self]
    · intro h
      rw [h2 (h.imp id fun h k hk => h k (List.mem_cons_of_mem _ hk))]
      show (if d.1 = a then st.nx else setF st.nx d.1 (d.2 : Nat)) n = _
      by_cases hd : d.1 = a
      · rw [if_pos hd]
      · rw [if_neg hd, setF_other]
        rintro rfl
        rcases h with h | h
        · exact hd h
        · exact h d.2 (List.mem_cons_self ..)
theorem adds_ah : ∀ (L : List (Nat × Nat)) (st : Fl) (m : Nat), (∀ x, (x, m) ∈ L → m ≠ b → (∀ x', (x', m) ∈ L → x' = x) → (L.foldl (addF a b) st).ah m = (x : Int)) ∧ ((m = b ∨ ∀ x, (x, m) ∉ L) → (L.foldl (addF a b) st).ah m = st.ah m)
  | [], st, n => ⟨fun _ h => (by cases h), fun _ => rfl⟩
  | d :: L, st, n => by
    obtain ⟨h1, h2⟩ := adds_ah L (addF a b st d) n
    rw [List.foldl_cons]
    constructor
    · intro k hk hna hu
      by_cases hL : (k, n) ∈ L
      · exact h1 k hL hna (fun k' hk' => hu k' (List.mem_cons_of_mem _ hk'))
      · have hL' : ∀ k', (k', n) ∉ L := fun k' hk' => hL (hu k' (List.mem_cons_of_mem _ hk') ▸ hk')
        rw [h2 (.inr hL')]
        have hd : (k, n) = d := (List.mem_cons.1 hk).resolve_right hL
        subst hd
        show (if n = b then st.ah else setF st.ah n (k : Nat)) n = _
        rw [if_neg hna, setF_self]
    · intro h
      rw [h2 (h.imp id fun h k hk => h k (List.mem_cons_of_mem _ hk))]
      show (if d.2 = b then st.ah else setF st.ah d.2 (d.1 : Nat)) n = _
      by_cases hd : d.2 = b
      · rw [if_pos hd]
      · rw [if_neg hd, setF_other]
        rintro rfl
        rcases h with h | h
        · exact hd h
        · exact h d.1 (List.mem_cons_self ..)
theorem adds_fs : ∀ (L : List (Nat × Nat)) (st : Fl), (L.foldl (addF a b) st).fs = st.fs ++ (L.filter fun d => decide (d.1 = a)).map (·.2)
  | [], st => by simp
  | d :: L, st => by
    rw [List.foldl_cons, adds_fs L]
    show (if d.1 = a then st.fs ++ [d.2] else st.fs) ++ _ = _
    by_cases hd : d.1 = a
    · simp [hd]
    · simp [hd]
theorem first_add (h : SWalk l a b st p) : ∃ k, AddE p a k ∧ (pairsL addO p (p.length - 1)).filter (fun d => decide (d.1 = a)) = [(a, k)] := by
  obtain ⟨t, ht, hn⟩ := h.next h.hd (fun e => by injection e with _ e; cases e)
  have hk : ∃ k, t = (k, false) ∧ k ≠ a := by
    cases hn with
    | fwd _ _ g => exact ⟨_, rfl, g⟩
    | back _ g => exact absurd rfl g.1
  obtain ⟨k, rfl, hka⟩ := hk
  refine ⟨k, ⟨0, h.hd, ht, fun e => hka e.symm⟩, ?_⟩
  have hall : ∀ i, i + 2 ≤ p.length → (pairsL addO p (i + 1)).filter (fun d => decide (d.1 = a)) = [(a, k)] := by
    intro i
    induction i with
    | zero =>
      intro _
      show ([] ++ pairO addO p 0).filter _ = _
      have hak : ¬ a = k := fun e => hka e.symm
      rw [pairO_at h.hd ht]
      simp [addO, hak]
    | succ i ih =>
      intro hi
      show (pairsL addO p (i + 1) ++ pairO addO p (i + 1)).filter _ = _
      rw [List.filter_append, ih (by omega)]
      have h1 : p[i + 1]? = some (p[i + 1]'(by omega)) := List.getElem?_eq_getElem _
      have h2 : p[i + 1 + 1]? = some (p[i + 1 + 1]'(by omega)) := List.getElem?_eq_getElem _
      have : (pairO addO p (i + 1)).filter (fun d => decide (d.1 = a)) = [] := by
        rw [List.filter_eq_nil_iff]
        intro d hd
        rw [pairO_at h1 h2] at hd
        unfold addO at hd
        split at hd
        · cases hd
        · split at hd
          · rename_i hc
            rw [List.mem_singleton] at hd
            subst hd
            simp only [decide_eq_true_eq]
            intro e
            have : p[i + 1] = (a, true) := Prod.ext e hc.1
            rw [this] at h1
            have := at_inj h.nd h1 h.hd
            omega
          · cases hd
      rw [this, List.append_nil]
  have hl := getElem?_lt ht
  have := hall (p.length - 2) (by omega)
  rw [show p.length - 2 + 1 = p.length - 1 by omega] at this
  exact this
/-- The state behind a walk. -/
def augF (a b : Nat) (st : Fl) (p : List Spt) : Fl := (pairsL addO p (p.length - 1)).foldl (addF a b) ((pairsL dropO p (p.length - 1)).foldl dropF st)
theorem aug_ok (h : SWalk l a b st p) : Aug a b st p (augF a b st p) := by
  have ha : ∀ x k, (x, k) ∈ pairsL addO p (p.length - 1) ↔ AddE p x k := fun x k => adds_iff h
  have hd : ∀ n m, (n, m) ∈ pairsL dropO p (p.length - 1) ↔ DropE p n m := fun n m => drops_iff h
  refine ⟨fun n k he hn => ?_, fun n m h1 h2 => ?_, fun n h1 h2 => ?_, fun x k he hk => ?_, fun n m h1 h2 => ?_, fun m h1 h2 => ?_, ?_⟩
  · exact (adds_nx _ _ n).1 k ((ha n k).2 he) hn (fun k' hk' => h.add_fun ((ha n k').1 hk') he)
  · unfold augF
    rw [(adds_nx _ _ n).2 (.inr fun k hk => h1 k ((ha n k).1 hk))]
    exact (drops_nx _ st n).1 ⟨m, (hd n m).2 h2⟩
  · unfold augF
    rw [(adds_nx _ _ n).2 (h1.imp id fun h1 k hk => h1 k ((ha n k).1 hk))]
    exact (drops_nx _ st n).2 (fun m hm => h2 m ((hd n m).1 hm))
  · exact (adds_ah _ _ k).1 x ((ha x k).2 he) hk (fun x' hx' => h.add_inj ((ha x' k).1 hx') he)
  · unfold augF
    rw [(adds_ah _ _ m).2 (.inr fun x hx => h1 x ((ha x m).1 hx))]
    exact (drops_ah _ st m).1 ⟨n, (hd n m).2 h2⟩
  · unfold augF
    rw [(adds_ah _ _ m).2 (h1.imp id fun h1 x hx => h1 x ((ha x m).1 hx))]
    exact (drops_ah _ st m).2 (fun n hn => h2 n ((hd n m).1 hn))
  · obtain ⟨k, h1, h2⟩ := first_add h
    refine ⟨k, h1, ?_⟩
    unfold augF
    rw [adds_fs, drops_fs, h2]
    rfl
end
end Go.Proofs.YtonmkmghpiagjaaDoor
