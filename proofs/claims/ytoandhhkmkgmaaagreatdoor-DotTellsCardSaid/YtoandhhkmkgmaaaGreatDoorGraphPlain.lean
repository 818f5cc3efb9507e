/- Graphs, plain: the edges of rows; a graph turned round; a part of a graph. -/
import Derived.Test.YtoandhhkmkgmaaaGreatDoorEdge0
import Derived.Test.YtoandhhkmkgmaaaGreatDoorGr5
import Derived.Test.YtoandhhkmkgmaaaGreatDoorReach5
namespace Go.Proofs.YtoandhhkmkgmaaaGreatDoor

/-- The edges of rows, in order. -/
def edgesAt (r : List Nat) (i : Nat) : List EdgeT := (nums (rowAt r i)).map fun k : Nat => ((i : Int), (k : Int))
def edgesOf (r : List Nat) : List EdgeT := (List.range r.length).flatMap (edgesAt r)
def Ris (E : List EdgeT) : Prop := E.Pairwise fun a b => edgeLt a b = true
theorem ris_eq {A B : List EdgeT} (ha : Ris A) (hb : Ris B) (h : ∀ e, e ∈ A ↔ e ∈ B) : A = B := by
  have hir : ∀ x : EdgeT, edgeLt x x = false := fun x => by unfold edgeLt; simp
  have nd : ∀ {L : List EdgeT}, Ris L → L.Nodup := fun hl => hl.imp fun {a b} hab he => by rw [he, hir] at hab; cases hab
  have hp : A.Perm B := (List.perm_ext_iff_of_nodup (nd ha) (nd hb)).2 h
  exact List.Perm.eq_of_pairwise (fun x y _ _ h1 h2 => by
    unfold edgeLt at h1 h2
    rw [decide_eq_true_eq] at h1 h2
    omega) ha hb hp
theorem mem_edgesAt {r : List Nat} (hr : Rows64 r) {i : Nat} {e : EdgeT} : e ∈ edgesAt r i ↔ ∃ k : Nat, (rowAt r i).testBit k = true ∧ e = ((i : Int), (k : Int)) := by
  unfold edgesAt
  rw [List.mem_map]
  constructor
  · rintro ⟨k, hk, rfl⟩
    exact ⟨k, (mem_nums (hr i)).1 hk, rfl⟩
  · rintro ⟨k, hk, rfl⟩
    exact ⟨k, (mem_nums (hr i)).2 hk, rfl⟩
theorem mem_edgesOf {r : List Nat} (hr : Rows64 r) {e : EdgeT} : e ∈ edgesOf r ↔ ∃ i k : Nat, i < r.length ∧ (rowAt r i).testBit k = true ∧ e = ((i : Int), (k : Int)) := by
  unfold edgesOf
  rw [List.mem_flatMap]
  constructor
  · rintro ⟨i, hi, he⟩
    obtain ⟨k, hk, rfl⟩ := (mem_edgesAt hr).1 he
    exact ⟨i, k, List.mem_range.1 hi, hk, rfl⟩
  · rintro ⟨i, k, hi, hk, rfl⟩
    exact ⟨i, List.mem_range.2 hi, (mem_edgesAt hr).2 ⟨k, hk, rfl⟩⟩
theorem ris_edgesOf {r : List Nat} (hr : Rows64 r) : Ris (edgesOf r) := by
  unfold Ris edgesOf
  rw [List.pairwise_flatMap]
  refine ⟨fun i _ => ?_, ?_⟩
  · unfold edgesAt
    rw [List.pairwise_map]
    exact (nums_sorted _).imp fun {a b} h => by unfold edgeLt; rw [decide_eq_true_eq]; right; exact ⟨rfl, by simp; omega⟩
  · exact List.pairwise_lt_range.imp fun {a b} h x hx y hy => by
      obtain ⟨k, _, rfl⟩ := (mem_edgesAt hr).1 hx
      obtain ⟨k', _, rfl⟩ := (mem_edgesAt hr).1 hy
      unfold edgeLt; rw [decide_eq_true_eq]; left; simp; omega
theorem rises_ris {E : List EdgeT} (h : risesB edgeLt E = true) : Ris E := rises_pairwise edgeLt_trans h
theorem ris_nodup {L : List EdgeT} (h : Ris L) : L.Nodup := h.imp fun {a b} hab he => by
  rw [he] at hab
  unfold edgeLt at hab
  simp at hab
/-! ### Turned round -/
def swapE (e : EdgeT) : EdgeT := (e.2, e.1)
theorem esort_ris {E : List EdgeT} (h : E.Nodup) : Ris (esort E) := by
  have h1 : (esort E).Pairwise fun a b => (!(ltOf edgeCmp) b a) = true := List.pairwise_mergeSort (fun a b c h1 h2 => by
    rw [Bool.not_eq_true', ltOf_edge] at *
    unfold edgeLt at *
    rw [decide_eq_false_iff_not] at *
    omega) (fun a b => by
    rw [ltOf_edge, ltOf_edge]
    unfold edgeLt
    simp only [Bool.or_eq_true, Bool.not_eq_true', decide_eq_false_iff_not]
    omega) E
  have h2 : (esort E).Nodup := (esort_perm E).nodup_iff.2 h
  unfold Ris
  refine (h1.and h2).imp fun {a b} hab => ?_
  obtain ⟨h3, h4⟩ := hab
  rw [Bool.not_eq_true', ltOf_edge] at h3
  unfold edgeLt at *
  rw [decide_eq_false_iff_not] at h3
  rw [decide_eq_true_eq]
  obtain ⟨a1, a2⟩ := a
  obtain ⟨b1, b2⟩ := b
  simp only at *
  rcases Int.lt_trichotomy a1 b1 with hc | hc | hc
  · exact .inl hc
  · rcases Int.lt_trichotomy a2 b2 with hd | hd | hd
    · exact .inr ⟨hc, hd⟩
    · exact absurd (by rw [hc, hd]) h4
    · omega
  · omega
theorem turned_bit (l : List Nat) (i k : Nat) (hi : i < l.length) : (rowAt (turned l) i).testBit k = true ↔ k < l.length ∧ (rowAt l k).testBit i = true := by
  rw [rowAt_turned l i hi, colUp_bit]
  simp
theorem turn_edges {n : Nat} {E : List EdgeT} (hn : n ≤ 64) (ho : E.any (edgeOut n) = false) (hr : risesB edgeLt E = true) : esort (E.map swapE) = edgesOf (turned (rowsG n E)) := by
  have hg := rowsG_good hn ho
  have hl := rowsG_len n E
  have hin : ∀ e ∈ E, 0 ≤ e.1 ∧ e.1 < n ∧ 0 ≤ e.2 ∧ e.2 < n := fun e he => by
    have := List.any_eq_false.1 ho e he
    unfold edgeOut at this
    simp at this
    omega
  have htg := turned_good hg
  refine ris_eq (esort_ris ?_) (ris_edgesOf htg.b64) fun e => ?_
  · exact (ris_nodup (rises_ris hr)).map swapE fun a b hab he => hab (by
      unfold swapE at he
      injection he with h1 h2
      exact Prod.ext h2 h1)
  · rw [(esort_perm _).mem_iff, mem_edgesOf htg.b64, List.mem_map]
    constructor
    · rintro ⟨⟨a, b⟩, he, rfl⟩
      obtain ⟨h1, h2, h3, h4⟩ := hin _ he
      simp only at *
      obtain ⟨x, rfl⟩ := Int.eq_ofNat_of_zero_le h1
      obtain ⟨y, rfl⟩ := Int.eq_ofNat_of_zero_le h3
      refine ⟨y, x, by rw [turned_len, hl]; omega, ?_, rfl⟩
      rw [turned_bit (rowsG n E) y x (by rw [hl]; omega), hl]
      exact ⟨by omega, (rowsG_bit ho x y).2 he⟩
    · rintro ⟨i, k, hi, hk, rfl⟩
      rw [turned_len, hl] at hi
      rw [turned_bit (rowsG n E) i k (by rw [hl]; exact hi)] at hk
      exact ⟨((k : Int), (i : Int)), (rowsG_bit ho k i).1 hk.2, rfl⟩
/-! ### A part -/
/-- The set t seen from the places of s: place i stands for s's number i. -/
def sqz (t : Nat) (L : List Nat) : Nat := (List.range L.length).foldl (fun o i => if t.testBit (L.getD i 0) then addN o i else o) 0
theorem addN_bit' (s i j : Nat) : (addN s i).testBit j = (s.testBit j || decide (j = i)) := by
  rw [show (addN s i).testBit j = (s.testBit j || decide (i = j)) from or_bit s i j]
  congr 1
  rw [decide_eq_decide]
  exact eq_comm
theorem fold_bit (p : Nat → Bool) : ∀ (m j : Nat), ((List.range m).foldl (fun o i => if p i then addN o i else o) 0).testBit j = (decide (j < m) && p j)
  | 0, j => by simp
  | m + 1, j => by
    rw [List.range_succ, List.foldl_append]
    simp only [List.foldl_cons, List.foldl_nil]
    have ih := fold_bit p m j
    by_cases hp : p m = true
    · rw [if_pos hp, addN_bit', ih]
      by_cases hj : j = m
      · subst hj; simp [hp]
      · rw [decide_eq_false hj, Bool.or_false]
        congr 1
        rw [decide_eq_decide]; omega
    · rw [if_neg hp, ih]
      by_cases hj : j = m
      · subst hj; simp at hp; simp [hp]
      · congr 1
        rw [decide_eq_decide]; omega
/-- What a set p of places is. -/
def setP (m : Nat) (p : Nat → Bool) : Nat := (List.range m).foldl (fun o i => if p i then addN o i else o) 0
theorem setP_bit (m : Nat) (p : Nat → Bool) (j : Nat) : (setP m p).testBit j = (decide (j < m) && p j) := fold_bit p m j
theorem setP_zero (p : Nat → Bool) : setP 0 p = 0 := rfl
theorem setP_succ (m : Nat) (p : Nat → Bool) : setP (m + 1) p = if p m then addN (setP m p) m else setP m p := by
  unfold setP
  rw [List.range_succ, List.foldl_append]
  rfl
theorem setP_b64 {m : Nat} (p : Nat → Bool) (hm : m ≤ 64) : B64 (setP m p) := B64.of_bits fun j hj => by
  rw [setP_bit] at hj
  simp at hj
  omega
def partS (t s : Nat) : Nat := setP (nums s).length fun i => t.testBit ((nums s).getD i 0)
def partN (N : List (List UInt8)) (s : Nat) : List (List UInt8) := (nums s).map fun i => N.getD i []
def inE (s : Nat) (e : EdgeT) : Bool := s.testBit e.1.toNat && s.testBit e.2.toNat
def rkE (s : Nat) (e : EdgeT) : EdgeT := ((rankS s e.1 : Nat), (rankS s e.2 : Nat))
def partE (E : List EdgeT) (s : Nat) : List EdgeT := (E.filter (inE s)).map (rkE s)
/-- The rows of a part. -/
def partR (r : List Nat) (s : Nat) : List Nat := (nums s).map fun i => setP (nums s).length fun k => (rowAt r i).testBit ((nums s).getD k 0)
theorem below_len : ∀ {L : List Nat}, L.Pairwise (· < ·) → ∀ {i x : Nat}, L[i]? = some x → (L.filter fun y => decide (y < x)).length = i
  | [], _, i, x, h => by simp at h
  | a :: L, hp, 0, x, h => by
    simp at h
    subst h
    have : (L.filter fun y => decide (y < a)) = [] := List.filter_eq_nil_iff.2 fun y hy => by
      have := List.rel_of_pairwise_cons hp hy
      simp; omega
    simp [this]
  | a :: L, hp, i + 1, x, h => by
    have h' : L[i]? = some x := by simpa using h
    have hax := List.rel_of_pairwise_cons hp (List.mem_of_getElem? h')
    have ih := below_len (List.Pairwise.of_cons hp) h'
    rw [List.filter_cons_of_pos (by simpa using hax), List.length_cons, ih]
theorem rank_at {s i x : Nat} (h : (nums s)[i]? = some x) : rankS s (x : Int) = i := by
  have hx : x < 64 := nums_lt (List.mem_of_getElem? h)
  unfold rankS
  rw [show (min (max (x : Int) 0) 64).toNat = x by omega]
  have e : nums (s &&& upTo x) = (nums s).filter fun y => decide (y < x) := by
    unfold nums
    rw [List.filter_filter]
    apply List.filter_congr
    intro y _
    rw [Nat.testBit_and, upTo_bit, Bool.and_comm]
  rw [e]
  exact below_len (nums_sorted s) h
theorem rank_of {s x : Nat} (hs : B64 s) (h : s.testBit x = true) : (nums s)[rankS s (x : Int)]? = some x := by
  obtain ⟨i, hi⟩ := List.mem_iff_getElem?.1 ((mem_nums hs).2 h)
  rw [rank_at hi]
  exact hi
theorem partR_len (r : List Nat) (s : Nat) : (partR r s).length = (nums s).length := by unfold partR; rw [List.length_map]
theorem partR_at {r : List Nat} {s i x : Nat} (h : (nums s)[i]? = some x) : rowAt (partR r s) i = setP (nums s).length fun k => (rowAt r x).testBit ((nums s).getD k 0) := by
  unfold partR
  unfold rowAt
  rw [List.getElem?_map, h]
  rfl
theorem partR_b64 (r : List Nat) (s : Nat) : Rows64 (partR r s) := fun i => by
  cases h : (nums s)[i]? with
  | none =>
    rw [rowAt_ge (by rw [partR_len]; exact List.getElem?_eq_none_iff.1 h)]
    exact B64.of (by decide)
  | some x =>
    rw [partR_at h]
    exact setP_b64 _ (nums_len s)
theorem part_edges {n s : Nat} {E : List EdgeT} (hs : B64 s) (ho : E.any (edgeOut n) = false) (hr : risesB edgeLt E = true) : partE E s = edgesOf (partR (rowsG n E) s) := by
  have hin : ∀ e ∈ E, 0 ≤ e.1 ∧ e.1 < n ∧ 0 ≤ e.2 ∧ e.2 < n := fun e he => by
    have := List.any_eq_false.1 ho e he
    unfold edgeOut at this
    simp at this
    omega
  have hmono : ∀ {x y : Nat}, s.testBit x = true → s.testBit y = true → x < y → rankS s (x : Int) < rankS s (y : Int) := fun {x y} hx hy hxy => by
    have h1 := rank_of hs hx
    have h2 := rank_of hs hy
    apply Classical.byContradiction
    intro hc
    obtain ⟨l1, e1⟩ := List.getElem?_eq_some_iff.1 h1
    obtain ⟨l2, e2⟩ := List.getElem?_eq_some_iff.1 h2
    rcases Nat.lt_or_ge (rankS s (y : Int)) (rankS s (x : Int)) with hlt | hge
    · have := List.pairwise_iff_getElem.1 (nums_sorted s) _ _ l2 l1 hlt
      rw [e1, e2] at this
      omega
    · have he : rankS s (x : Int) = rankS s (y : Int) := by omega
      rw [he] at h1
      rw [h1] at h2
      injection h2 with h2
      omega
  refine ris_eq ?_ (ris_edgesOf (partR_b64 _ _)) fun e => ?_
  · unfold Ris partE
    rw [List.pairwise_map]
    refine List.Pairwise.imp_of_mem ?_ ((rises_ris hr).filter _)
    intro a b ha hb hab
    obtain ⟨ha1, ha2⟩ := List.mem_filter.1 ha
    obtain ⟨hb1, hb2⟩ := List.mem_filter.1 hb
    obtain ⟨p1, p2, p3, p4⟩ := hin a ha1
    obtain ⟨q1, q2, q3, q4⟩ := hin b hb1
    obtain ⟨a1, a2⟩ := a
    obtain ⟨b1, b2⟩ := b
    simp only at *
    obtain ⟨a1, rfl⟩ := Int.eq_ofNat_of_zero_le p1
    obtain ⟨a2, rfl⟩ := Int.eq_ofNat_of_zero_le p3
    obtain ⟨b1, rfl⟩ := Int.eq_ofNat_of_zero_le q1
    obtain ⟨b2, rfl⟩ := Int.eq_ofNat_of_zero_le q3
    unfold inE at ha2 hb2
    simp at ha2 hb2
    unfold edgeLt rkE at *
    rw [decide_eq_true_eq] at *
    simp only at *
    rcases hab with hab | ⟨hab, hcd⟩
    · left
      have := hmono ha2.1 hb2.1 (by omega)
      omega
    · right
      have := hmono ha2.2 hb2.2 (by omega)
      refine ⟨?_, by omega⟩
      have : a1 = b1 := by omega
      rw [this]
  · rw [mem_edgesOf (partR_b64 _ _)]
    unfold partE
    rw [List.mem_map]
    constructor
    · rintro ⟨⟨a, b⟩, he, rfl⟩
      obtain ⟨h1, h2⟩ := List.mem_filter.1 he
      obtain ⟨p1, p2, p3, p4⟩ := hin _ h1
      simp only at *
      obtain ⟨a, rfl⟩ := Int.eq_ofNat_of_zero_le p1
      obtain ⟨b, rfl⟩ := Int.eq_ofNat_of_zero_le p3
      unfold inE at h2
      simp at h2
      have ra := rank_of hs h2.1
      have rb := rank_of hs h2.2
      refine ⟨rankS s (a : Int), rankS s (b : Int), by rw [partR_len]; exact (List.getElem?_eq_some_iff.1 ra).1, ?_, rfl⟩
      rw [partR_at ra, setP_bit, decide_eq_true (List.getElem?_eq_some_iff.1 rb).1, List.getD_eq_getElem?_getD, rb]
      simpa using (rowsG_bit ho a b).2 h1
    · rintro ⟨i, k, hi, hk, rfl⟩
      rw [partR_len] at hi
      obtain ⟨x, hx⟩ : ∃ x, (nums s)[i]? = some x := ⟨_, List.getElem?_eq_getElem hi⟩
      rw [partR_at hx, setP_bit] at hk
      simp only [Bool.and_eq_true, decide_eq_true_eq] at hk
      obtain ⟨hk1, hk2⟩ := hk
      obtain ⟨y, hy⟩ : ∃ y, (nums s)[k]? = some y := ⟨_, List.getElem?_eq_getElem hk1⟩
      rw [List.getD_eq_getElem?_getD, hy] at hk2
      simp only [Option.getD_some] at hk2
      have hxs := (mem_nums hs).1 (List.mem_of_getElem? hx)
      have hys := (mem_nums hs).1 (List.mem_of_getElem? hy)
      refine ⟨((x : Int), (y : Int)), List.mem_filter.2 ⟨(rowsG_bit ho x y).1 hk2, by unfold inE; simp [hxs, hys]⟩, ?_⟩
      unfold rkE
      simp only
      rw [rank_at hx, rank_at hy]
end Go.Proofs.YtoandhhkmkgmaaaGreatDoor
