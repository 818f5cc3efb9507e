/- Patterns, in plain Lean: a pattern taken apart; its plain text; a text quoted. No program in sight. -/
import Derived.Test.YtjdfmmjadjggjaaGlobPlain
namespace Go.Proofs.Ytjdfmmjadjggjaa

/-- A piece with the byte that it stands for alone; -1: not one. -/
structure GQ where
  p : GP
  self : Int
def noS : Nat → Bool := fun _ => false
def turnS (S : Nat → Bool) : Nat → Bool := fun c => decide (c < 256) && !S c
def oneS (d : UInt8) : Nat → Bool := addS noS d d
def negB (t : List UInt8) : Bool := t.head? == some 33
def behB (t : List UInt8) : List UInt8 := if negB t then t.tail else t
def setB (t : List UInt8) (S : Nat → Bool) : Nat → Bool := if negB t then turnS S else S
/-- The first piece of a pattern, and what stands behind it. -/
def stepG (c : UInt8) (t : List UInt8) : Option (GQ × List UInt8) :=
  if c = 42 then some (⟨⟨true, noS⟩, -1⟩, t)
  else if c = 63 then some (⟨⟨false, turnS noS⟩, -1⟩, t)
  else if c = 91 then (clsP 0 noS (behB t)).map fun x => (⟨⟨false, setB t x.1⟩, -1⟩, x.2)
  else if c = 93 then none
  else if c = 92 then (match t with
    | [] => none
    | d :: r => some (⟨⟨false, oneS d⟩, d.toNat⟩, r))
  else some (⟨⟨false, oneS c⟩, c.toNat⟩, t)
theorem clsP_len : ∀ (n : Nat) (s : List UInt8) (many : Nat) (S : Nat → Bool) (x : (Nat → Bool) × List UInt8), s.length ≤ n → clsP many S s = some x → x.2.length < s.length := by
  intro n
  induction n with
  | zero =>
    intro s many S x hn h
    obtain rfl : s = [] := List.length_eq_zero_iff.1 (by omega)
    rw [clsP] at h
    cases h
  | succ n ih =>
    intro s many S x hn h
    cases s with
    | nil => rw [clsP] at h; cases h
    | cons a t =>
      rw [clsP] at h
      have h1 := itemG_len a t
      simp only [List.length_cons] at hn ⊢
      split at h
      · split at h
        · cases h
        · injection h with h
          subst h
          exact Nat.lt_succ_self _
      · split at h
        · cases h
        · have := ih _ _ _ x (by omega) h
          omega
theorem behB_len (t : List UInt8) : (behB t).length ≤ t.length := by
  unfold behB
  split
  · simp
  · exact Nat.le_refl _
theorem stepG_len {c : UInt8} {t : List UInt8} {x : GQ × List UInt8} (h : stepG c t = some x) : x.2.length ≤ t.length := by
  unfold stepG at h
  split at h
  · injection h with h; subst h; exact Nat.le_refl _
  · split at h
    · injection h with h; subst h; exact Nat.le_refl _
    · split at h
      · obtain ⟨y, hy, rfl⟩ := Option.map_eq_some_iff.1 h
        have h1 := clsP_len _ _ _ _ _ (Nat.le_refl _) hy
        have h2 := behB_len t
        show y.2.length ≤ _
        omega
      · split at h
        · cases h
        · split at h
          · cases t with
            | nil => cases h
            | cons d r => injection h with h; subst h; simp
          · injection h with h; subst h; exact Nat.le_refl _
/-- A pattern taken apart. -/
def parseG : List UInt8 → Option (List GQ)
  | [] => some []
  | c :: t => match _h : stepG c t with
    | none => none
    | some x => (parseG x.2).map (x.1 :: ·)
termination_by s => s.length
decreasing_by have := stepG_len _h; simp; omega
theorem parseG_nil : parseG [] = some [] := by rw [parseG]
theorem parseG_no {c : UInt8} {t : List UInt8} (h : stepG c t = none) : parseG (c :: t) = none := by
  rw [parseG]
  split
  · rfl
  · rename_i x hx; rw [h] at hx; cases hx
theorem parseG_yes {c : UInt8} {t : List UInt8} {x : GQ × List UInt8} (h : stepG c t = some x) : parseG (c :: t) = (parseG x.2).map (x.1 :: ·) := by
  rw [parseG]
  split
  · rename_i hx; rw [h] at hx; cases hx
  · rename_i y hy; rw [h] at hy; injection hy with hy; subst hy; rfl
/-- No bracket ends the set. -/
theorem stepG_open {t : List UInt8} (h : ∀ x ∈ t, x ≠ 93) : stepG 91 t = none := by
  have hb : ∀ x ∈ behB t, x ≠ 93 := fun x hx => h x (by
    unfold behB at hx
    split at hx
    · exact List.mem_of_mem_tail hx
    · exact hx)
  have e : stepG 91 t = (clsP 0 noS (behB t)).map fun x => (⟨⟨false, setB t x.1⟩, -1⟩, x.2) := rfl
  rw [e, cls_none _ _ _ _ (Nat.le_refl _) hb]
  rfl
/-- The first bracket behind ends the set. -/
theorem stepG_set {seg r : List UInt8} (h : ∀ x ∈ seg, x ≠ 93) : stepG 91 (seg ++ 93 :: r) = if behB seg = [] then none else (itemsR noS (behB seg)).map fun S => (⟨⟨false, setB seg S⟩, -1⟩, r) := by
  have hn : negB (seg ++ 93 :: r) = negB seg := by
    unfold negB
    cases seg with
    | nil => rfl
    | cons a q => rfl
  have hb : behB (seg ++ 93 :: r) = behB seg ++ 93 :: r := by
    unfold behB
    rw [hn]
    split
    · rename_i hh
      cases seg with
      | nil => cases hh
      | cons a q => rfl
    · rfl
  have hs : ∀ x ∈ behB seg, x ≠ 93 := fun x hx => h x (by
    unfold behB at hx
    split at hx
    · exact List.mem_of_mem_tail hx
    · exact hx)
  have e : stepG 91 (seg ++ 93 :: r) = (clsP 0 noS (behB (seg ++ 93 :: r))).map fun x => (⟨⟨false, setB (seg ++ 93 :: r) x.1⟩, -1⟩, x.2) := rfl
  have hset : ∀ S, setB (seg ++ 93 :: r) S = setB seg S := fun S => by unfold setB; rw [hn]
  rw [e, hb, cls_items _ _ _ _ _ (Nat.le_refl _) hs]
  by_cases h0 : behB seg = []
  · rw [if_pos ⟨rfl, h0⟩, if_pos h0]; rfl
  · rw [if_neg (fun hh => h0 hh.2), if_neg h0, Option.map_map]
    congr 1
    funext S
    simp [hset]

/-- The text that a pattern stands for alone. -/
def plainG : List UInt8 → Option (List UInt8)
  | [] => some []
  | c :: t => if c = 42 ∨ c = 63 ∨ c = 91 then none else if c = 92 then (match t with
    | [] => some []
    | d :: r => (plainG r).map (d :: ·)) else (plainG t).map (c :: ·)
theorem plainG_cons (c : UInt8) (t : List UInt8) : plainG (c :: t) = if c = 42 ∨ c = 63 ∨ c = 91 then none else if c = 92 then (match t with
    | [] => some []
    | d :: r => (plainG r).map (d :: ·)) else (plainG t).map (c :: ·) := by cases t <;> rfl
theorem plain_parse : ∀ (n : Nat) (s : List UInt8) (L : List GQ), s.length ≤ n → parseG s = some L → plainG s = if L.all (fun x => decide (0 ≤ x.self)) then some (L.map fun x => UInt8.ofNat x.self.toNat) else none := by
  intro n
  induction n with
  | zero =>
    intro s L hn h
    obtain rfl : s = [] := List.length_eq_zero_iff.1 (by omega)
    rw [parseG_nil] at h
    injection h with h
    subst h
    rfl
  | succ n ih =>
    intro s L hn h
    cases s with
    | nil =>
      rw [parseG_nil] at h
      injection h with h
      subst h
      rfl
    | cons c t =>
      cases hx : stepG c t with
      | none => rw [parseG_no hx] at h; cases h
      | some x =>
        rw [parseG_yes hx] at h
        obtain ⟨M, hM, rfl⟩ := Option.map_eq_some_iff.1 h
        have hlen := stepG_len hx
        have hn' : t.length ≤ n := by simp at hn; omega
        have hI := ih x.2 M (by omega) hM
        have one : ∀ d : UInt8, UInt8.ofNat (((d.toNat : Int)).toNat) = d := fun d => by simp
        unfold stepG at hx
        by_cases h1 : c = 42
        · subst h1; injection hx with hx; subst hx; rw [plainG_cons]; simp
        · by_cases h2 : c = 63
          · subst h2; injection hx with hx; subst hx; rw [plainG_cons]; simp
          · by_cases h3 : c = 91
            · subst h3
              rw [if_neg h1, if_neg h2, if_pos rfl] at hx
              obtain ⟨y, _, rfl⟩ := Option.map_eq_some_iff.1 hx
              rw [plainG_cons]
              simp
            · by_cases h4 : c = 93
              · subst h4; cases hx
              · rw [if_neg h1, if_neg h2, if_neg h3, if_neg h4] at hx
                by_cases h5 : c = 92
                · subst h5
                  rw [if_pos rfl] at hx
                  cases t with
                  | nil => cases hx
                  | cons d r =>
                    injection hx with hx
                    subst hx
                    have e : plainG (92 :: d :: r) = (plainG r).map (d :: ·) := rfl
                    rw [e, hI]
                    cases hA : M.all (fun x => decide (0 ≤ x.self)) <;> simp [hA]
                · rw [if_neg h5] at hx
                  injection hx with hx
                  subst hx
                  have e : plainG (c :: t) = (plainG t).map (c :: ·) := by rw [plainG_cons, if_neg (by simp [h1, h2, h3]), if_neg h5]
                  rw [e, hI]
                  cases hA : M.all (fun x => decide (0 ≤ x.self)) <;> simp [hA]
/-- A text quoted. -/
def quoG (c : UInt8) : Bool := c == 42 || c == 63 || c == 91 || c == 93 || c == 92
def quoteG (s : List UInt8) : List UInt8 := s.flatMap fun c => if quoG c then [92, c] else [c]
theorem quoteG_snoc (s : List UInt8) (c : UInt8) : quoteG (s ++ [c]) = quoteG s ++ (if quoG c then [92, c] else [c]) := by unfold quoteG; rw [List.flatMap_append]; simp
theorem quoteG_mono (s t : List UInt8) : (quoteG s).length ≤ (quoteG (s ++ t)).length := by unfold quoteG; rw [List.flatMap_append, List.length_append]; omega
end Go.Proofs.Ytjdfmmjadjggjaa
