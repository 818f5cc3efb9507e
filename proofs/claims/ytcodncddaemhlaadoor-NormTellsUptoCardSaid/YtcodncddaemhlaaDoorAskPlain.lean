/- What is asked, in plain Lean: its size, its faults, the names that are free in it. No program in sight. -/
import Derived.Test.YtcodncddaemhlaaDoorNamePlain
import Derived.Test.YtcodncddaemhlaaDoorGlobPlain
import Derived.Lib.MapLaws
namespace Go.Proofs.YtcodncddaemhlaaDoor

inductive AskT where
  | mk (kind : Int) (name : List UInt8) (n : Int) (X : List AskT) : AskT
def AskT.kind : AskT → Int | .mk k _ _ _ => k
def AskT.name : AskT → List UInt8 | .mk _ s _ _ => s
def AskT.n : AskT → Int | .mk _ _ n _ => n
def AskT.X : AskT → List AskT | .mk _ _ _ X => X
theorem askT_ind {P : AskT → Prop} (h : ∀ k s n X, (∀ y ∈ X, P y) → P (.mk k s n X)) : ∀ x, P x
  | .mk k s n X => h k s n X fun y _ => askT_ind h y
theorem attach_val {α β : Type} (X : List α) (f : α → β) : (X.attach.map fun x => f x.1) = X.map f := by
  apply List.ext_getElem?
  intro i
  rw [List.getElem?_map, List.getElem?_map, List.getElem?_attach]
  by_cases h : i < X.length
  · simp [List.getElem?_eq_getElem h]
  · simp [List.getElem?_eq_none (Nat.le_of_not_lt h)]
def sizeA : AskT → Nat
  | .mk _ _ _ X => 1 + (X.attach.map fun x => sizeA x.1).sum
  decreasing_by have := List.sizeOf_lt_of_mem x.2; simp_all; omega
theorem sizeA_mk (k : Int) (s : List UInt8) (n : Int) (X : List AskT) : sizeA (.mk k s n X) = 1 + (X.map sizeA).sum := by
  rw [sizeA, attach_val X sizeA]
theorem sizeA_pos (x : AskT) : 1 ≤ sizeA x := by
  obtain ⟨k, s, n, X⟩ := x
  rw [sizeA_mk]
  omega
theorem kids_le : ∀ X : List AskT, X.length ≤ (X.map sizeA).sum
  | [] => by simp
  | y :: X => by
    have h1 := kids_le X
    have h2 := sizeA_pos y
    rw [List.map_cons, List.sum_cons, List.length_cons]
    omega
theorem kids_size (x : AskT) : x.X.length ≤ sizeA x := by
  obtain ⟨k, s, n, X⟩ := x
  have := kids_le X
  rw [sizeA_mk]
  show X.length ≤ _
  omega
def manyK (k : Int) : Nat := if k = 4 ∨ k = 5 ∨ k = 6 ∨ k = 7 ∨ k = 12 ∨ k = 13 then 2 else if k = 8 ∨ k = 9 ∨ k = 10 ∨ k = 11 ∨ k = 14 ∨ k = 15 then 1 else 0
def namedK (k : Int) : Bool := decide (k = 1 ∨ k = 3 ∨ k = 4 ∨ k = 14)
def numK (k : Int) : Bool := decide (k = 10 ∨ k = 11 ∨ k = 15)
/-- A sign of a pattern. -/
def patC (c : UInt8) : Bool := c == 42 || c == 63 || c == 91 || c == 93 || c == 33 || c == 92
def patB (s : List UInt8) : Bool := s.all (fun c => patC c || sgn c) && decide (errG s = 0)
def letS : List UInt8 := [108, 101, 116]
def nodeE (k : Int) (s : List UInt8) (n : Int) (m : Nat) : Nat :=
  if k < 1 ∨ 15 < k then 1
  else if m ≠ manyK k ∨ (namedK k = false ∧ s ≠ []) ∨ (numK k = false ∧ n ≠ 0) then 1
  else if k = 14 then (if patB s = false then 3 else 0)
  else if namedK k = true then (if goodName s = false ∨ (k = 1 ∧ s = letS) then 3 else 0)
  else if k = 15 then (if n < 1 ∨ 3 < n then 4 else 0)
  else if n < 0 ∨ 100 < n then 4 else 0
def firstNZ (l : List Nat) : Nat := (l.find? (· != 0)).getD 0
def faultA : AskT → Nat
  | .mk k s n X => if nodeE k s n X.length ≠ 0 then nodeE k s n X.length else firstNZ (X.attach.map fun x => faultA x.1)
  decreasing_by have := List.sizeOf_lt_of_mem x.2; simp_all; omega
theorem faultA_mk (k : Int) (s : List UInt8) (n : Int) (X : List AskT) : faultA (.mk k s n X) = if nodeE k s n X.length ≠ 0 then nodeE k s n X.length else firstNZ (X.map faultA) := by
  rw [faultA, attach_val X faultA]
def askE (x : AskT) : Nat := if 60 < sizeA x then 2 else faultA x
theorem firstNZ_zero {l : List Nat} (h : ∀ x ∈ l, x = 0) : firstNZ l = 0 := by
  unfold firstNZ
  rw [List.find?_eq_none.2 (fun x hx => by simp [h x hx])]
  rfl
theorem firstNZ_all {l : List Nat} (h : firstNZ l = 0) : ∀ x ∈ l, x = 0 := by
  unfold firstNZ at h
  cases hf : l.find? (· != 0) with
  | none => intro x hx; have := List.find?_eq_none.1 hf x hx; simpa using this
  | some y =>
    rw [hf] at h
    have := List.find?_some hf
    simp at h this
    exact absurd h this
theorem firstNZ_at {l : List Nat} {i v : Nat} (hi : l[i]? = some v) (h : ∀ x ∈ l.take i, x = 0) (hv : v ≠ 0) : firstNZ l = v := by
  unfold firstNZ
  have hs : l = l.take i ++ v :: l.drop (i + 1) := by
    obtain ⟨hlt, hx⟩ := List.getElem?_eq_some_iff.1 hi
    rw [← hx, ← List.drop_eq_getElem_cons hlt, List.take_append_drop]
  rw [hs, List.find?_append, List.find?_eq_none.2 (fun x hx => by simp [h x hx])]
  simp [hv]
/-! ### Free names -/
def bindS (k : Int) (s : List UInt8) (b : List (List UInt8)) (i : Nat) : List (List UInt8) := if k = 4 ∧ i = 1 then b ++ [s] else b
def freeA : AskT → List (List UInt8) → List (List UInt8)
  | .mk k s _ X, b => (if k = 3 ∧ s ∉ b then [s] else []) ++ (X.attach.zipIdx.flatMap fun x => freeA x.1.1 (bindS k s b x.2))
  decreasing_by have := List.sizeOf_lt_of_mem x.1.2; simp_all; omega
def fvA : AskT → List (List UInt8)
  | .mk k s _ X => if k = 3 then [s] else rising (X.attach.zipIdx.flatMap fun x => (fvA x.1.1).filter fun m => decide (k ≠ 4 ∨ x.2 = 0 ∨ m ≠ s))
  decreasing_by have := List.sizeOf_lt_of_mem x.1.2; simp_all; omega
end Go.Proofs.YtcodncddaemhlaaDoor
/- The names that are free, two ways, in plain Lean: a row by row walk with what is bound; lists without doubles, made from inside. No program in sight. -/
namespace Go.Proofs.YtcodncddaemhlaaDoor

theorem attach_zip {α β : Type} (X : List α) (f : α → Nat → β) : (X.attach.zipIdx.map fun x => f x.1.1 x.2) = X.zipIdx.map fun x => f x.1 x.2 := by
  apply List.ext_getElem?
  intro i
  rw [List.getElem?_map, List.getElem?_map, List.getElem?_zipIdx, List.getElem?_zipIdx, List.getElem?_attach]
  by_cases h : i < X.length
  · simp [List.getElem?_eq_getElem h]
  · simp [List.getElem?_eq_none (Nat.le_of_not_lt h)]
theorem freeA_mk (k : Int) (s : List UInt8) (n : Int) (X : List AskT) (b : List (List UInt8)) : freeA (.mk k s n X) b = (if k = 3 ∧ s ∉ b then [s] else []) ++ (X.zipIdx.map fun x => freeA x.1 (bindS k s b x.2)).flatten := by
  rw [freeA, List.flatMap_def, attach_zip X (fun y i => freeA y (bindS k s b i))]
theorem fvA_mk (k : Int) (s : List UInt8) (n : Int) (X : List AskT) : fvA (.mk k s n X) = if k = 3 then [s] else rising (X.zipIdx.map fun x => (fvA x.1).filter fun m => decide (k ≠ 4 ∨ x.2 = 0 ∨ m ≠ s)).flatten := by
  rw [fvA, List.flatMap_def, attach_zip X (fun y i => (fvA y).filter fun m => decide (k ≠ 4 ∨ i = 0 ∨ m ≠ s))]
theorem fault_node {k : Int} {s : List UInt8} {n : Int} {X : List AskT} (h : faultA (.mk k s n X) = 0) : nodeE k s n X.length = 0 ∧ ∀ y ∈ X, faultA y = 0 := by
  rw [faultA_mk] at h
  by_cases h0 : nodeE k s n X.length = 0
  · rw [if_neg (fun e => e h0)] at h
    exact ⟨h0, fun y hy => firstNZ_all h _ (List.mem_map.2 ⟨y, hy, rfl⟩)⟩
  · rw [if_pos h0] at h
    exact absurd h h0
theorem node_many {k : Int} {s : List UInt8} {n : Int} {m : Nat} (h : nodeE k s n m = 0) : m = manyK k := by
  unfold nodeE at h
  split at h
  · cases h
  split at h
  · cases h
  · rename_i h2
    by_cases hm : m = manyK k
    · exact hm
    · exact absurd (.inl hm) h2
theorem free_fv : ∀ x : AskT, faultA x = 0 → ∀ b m, m ∈ freeA x b ↔ m ∈ fvA x ∧ m ∉ b := by
  refine askT_ind fun k s n X ih hf b m => ?_
  obtain ⟨h0, hX⟩ := fault_node hf
  have hm := node_many h0
  rw [freeA_mk, fvA_mk]
  by_cases h3 : k = 3
  · subst h3
    have : X = [] := List.length_eq_zero_iff.1 hm
    subst this
    rw [if_pos rfl]
    by_cases hs : s ∈ b
    · simp only [hs, not_true, and_false, if_false, List.zipIdx_nil, List.map_nil, List.flatten_nil, List.append_nil, List.not_mem_nil, List.mem_singleton, false_iff, not_and, Decidable.not_not]
      rintro rfl
      exact hs
    · simp only [hs, not_false_eq_true, and_self, if_true, List.zipIdx_nil, List.map_nil, List.flatten_nil, List.append_nil, List.mem_singleton]
      constructor
      · rintro rfl; exact ⟨rfl, hs⟩
      · exact fun h => h.1
  · rw [if_neg h3, if_neg (fun e => h3 e.1), List.nil_append, mem_rising]
    simp only [List.mem_flatten, List.mem_map]
    have hb : ∀ i, i < X.length → (m ∉ bindS k s b i ↔ (k ≠ 4 ∨ i = 0 ∨ m ≠ s) ∧ m ∉ b) := fun i hi => by
      unfold bindS
      by_cases h4 : k = 4
      · subst h4
        have h2 : X.length = 2 := hm
        rcases (by omega : i = 0 ∨ i = 1) with rfl | rfl
        · simp
        · simp [and_comm]
      · simp [h4]
    constructor
    · rintro ⟨l, ⟨⟨y, i⟩, hy, rfl⟩, hml⟩
      obtain ⟨hi1, hi2⟩ := List.mem_zipIdx' hy
      simp only at hml
      have h1 := (ih y (by rw [hi2]; exact List.getElem_mem _) (hX y (by rw [hi2]; exact List.getElem_mem _)) (bindS k s b i) m).1 hml
      have h2 := (hb i hi1).1 h1.2
      exact ⟨⟨_, ⟨(y, i), hy, rfl⟩, List.mem_filter.2 ⟨h1.1, by simpa using h2.1⟩⟩, h2.2⟩
    · rintro ⟨⟨l, ⟨⟨y, i⟩, hy, rfl⟩, hml⟩, hmb⟩
      obtain ⟨hi1, hi2⟩ := List.mem_zipIdx' hy
      obtain ⟨h1, h2⟩ := List.mem_filter.1 hml
      refine ⟨_, ⟨(y, i), hy, rfl⟩, (ih y (by rw [hi2]; exact List.getElem_mem _) (hX y (by rw [hi2]; exact List.getElem_mem _)) (bindS k s b i) m).2 ⟨h1, (hb i hi1).2 ⟨by simpa using h2, hmb⟩⟩⟩
theorem fvA_up (x : AskT) : Up (fvA x) := by
  obtain ⟨k, s, n, X⟩ := x
  rw [fvA_mk]
  split
  · exact List.pairwise_singleton _ _
  · exact rising_up _
theorem rising_free {x : AskT} (h : faultA x = 0) : rising (freeA x []) = fvA x :=
  up_unique (rising_up _) (fvA_up x) fun m => by rw [mem_rising, free_fv x h]; simp
end Go.Proofs.YtcodncddaemhlaaDoor
/- The signs of a pattern taken away, in plain Lean: what strings.Map leaves has signs of names only just where the pattern has signs of names and of patterns. -/
namespace Go.Proofs.YtcodncddaemhlaaDoor
open Go.Lib

def mapC (r : Int) : Int := if r = 42 ∨ r = 63 ∨ r = 91 ∨ r = 93 ∨ r = 33 ∨ r = 92 then 97 else r
def patD (s : List UInt8) : List UInt8 := mapD mapC s
theorem mapC_fits (x : Nat) (h : x ≤ 1114111) : -2147483648 ≤ mapC x ∧ mapC x ≤ 2147483647 := by
  unfold mapC
  split <;> omega
theorem mapC_pos (x : Nat) : 0 ≤ mapC x := by
  unfold mapC
  split <;> omega
theorem decode_low (l : List UInt8) (h : (l.getD 0 0).toNat < 128) : decodeL l = ((l.getD 0 0).toNat, 1) := by
  rw [decodeL_N]
  unfold decodeN
  rw [if_pos h]
theorem decode_high (l : List UInt8) (h : ¬ (l.getD 0 0).toNat < 128) : 128 ≤ (decodeL l).1 := by
  rw [decodeL_N]
  have k0 := (l.getD 0 0).toNat_lt
  rcases decodeN_shape l.length (l.getD 0 0).toNat (l.getD 1 0).toNat (l.getD 2 0).toNat (l.getD 3 0).toNat with ⟨c, e⟩ | ⟨c1, c2, c3, cv, e⟩ | ⟨c1, c2, c3, c4, cv, cs, e⟩ | ⟨c1, c2, c3, c4, c5, cv, cw, e⟩ | e
  all_goals (rw [e]; dsimp only; omega)
theorem sgn_lt {c : UInt8} (h : sgn c = true) : c.toNat < 128 := by
  unfold sgn at h
  simp only [Bool.or_eq_true, Bool.and_eq_true, decide_eq_true_eq] at h
  omega
theorem patC_lt {c : UInt8} (h : patC c = true) : c.toNat < 128 := by
  unfold patC at h
  simp only [Bool.or_eq_true, beq_iff_eq] at h
  rcases h with ((((h | h) | h) | h) | h) | h <;> subst h <;> decide
/-- The encoding of a rune beyond ASCII ends with no sign of ASCII. -/
theorem encode_last (r : Int) (h : 128 ≤ r) : ∃ x, (encodeRune r).getLast? = some x ∧ 128 ≤ x.toNat := by
  unfold encodeRune encodeRuneZ
  rw [if_neg (by omega)]
  repeat' split
  all_goals (simp only [List.map_cons, List.map_nil, List.getLast?_cons_cons, List.getLast?_singleton, Option.some.injEq, exists_eq_left']; (try simp [Nat.toUInt8]); (try omega))
theorem encode_high (r : Int) (h : 128 ≤ r) : (encodeRune r).all sgn = false := by
  obtain ⟨x, h1, h2⟩ := encode_last r h
  rw [Bool.eq_false_iff]
  intro h3
  have := sgn_lt (List.all_eq_true.1 h3 x (List.mem_of_getLast? h1))
  omega
theorem low_one : ∀ i : Fin 128, (encodeRune (mapC (i.val : Int))).all sgn = (patC (UInt8.ofNat i.val) || sgn (UInt8.ofNat i.val)) := by decide
theorem patD_all : ∀ (n : Nat) (l : List UInt8), l.length ≤ n → (mapD mapC l).all sgn = l.all (fun c => patC c || sgn c)
  | _, [], _ => rfl
  | 0, _ :: _, h => by simp at h
  | n + 1, c :: l, h => by
    rw [mapD_step mapC _ (by simp), if_pos (mapC_pos _), List.all_append]
    by_cases hc : c.toNat < 128
    · have e := decode_low (c :: l) hc
      rw [e]
      show ((encodeRune (mapC ((c.toNat : Nat) : Int))).all sgn && (mapD mapC l).all sgn) = _
      have h1 := low_one ⟨c.toNat, hc⟩
      dsimp only at h1
      rw [h1, patD_all n l (by simp at h; omega), List.all_cons]
      simp
    · have e := decode_high (c :: l) hc
      have h1 : mapC ((decodeL (c :: l)).1 : Int) = ((decodeL (c :: l)).1 : Int) := by
        unfold mapC
        rw [if_neg (by omega)]
      rw [h1, encode_high _ (by omega), Bool.false_and, List.all_cons]
      have h2 : (patC c || sgn c) = false := by
        rw [Bool.eq_false_iff]
        intro h3
        rw [Bool.or_eq_true] at h3
        rcases h3 with h3 | h3
        · exact hc (patC_lt h3)
        · exact hc (sgn_lt h3)
      rw [h2, Bool.false_and]
theorem patD_eq (s : List UInt8) : (patD s).all sgn = s.all (fun c => patC c || sgn c) := patD_all s.length s (Nat.le_refl _)
theorem encode_le (r : Int) : (encodeRune r).length ≤ 4 := by
  unfold encodeRune
  rw [List.length_map]
  exact (encodeRuneZ_length r).2
theorem patD_len : ∀ (n : Nat) (l : List UInt8), l.length ≤ n → (mapD mapC l).length ≤ 4 * l.length
  | _, [], _ => by rw [mapD_nil]; simp
  | 0, _ :: _, h => by simp at h
  | n + 1, c :: l, h => by
    have hw := decodeL_width (c :: l)
    have he := encode_le (mapC ((decodeL (c :: l)).1 : Int))
    rw [mapD_step mapC _ (by simp), if_pos (mapC_pos _), List.length_append]
    have h1 := patD_len n ((c :: l).drop (decodeL (c :: l)).2) (by rw [List.length_drop]; omega)
    rw [List.length_drop] at h1
    simp only [List.length_cons] at *
    omega
/-- A chunk is a good name just where all its signs are. -/
theorem chunk_good (l : List UInt8) (n : Nat) (h0 : l ≠ []) (hn : n = min l.length 40) : goodName (l.take n) = (l.take n).all sgn := by
  have hl : 0 < l.length := List.length_pos_iff.2 h0
  unfold goodName
  rw [List.length_take]
  have h1 : 0 < min n l.length := by omega
  have h2 : min n l.length ≤ 40 := by omega
  simp [h1, h2]
end Go.Proofs.YtcodncddaemhlaaDoor
