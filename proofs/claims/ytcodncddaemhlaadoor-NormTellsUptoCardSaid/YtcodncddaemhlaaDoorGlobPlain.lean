/- Patterns, in plain Lean: the set within brackets read in two ways; the texts that pieces stand for, by rows and by bits. No program in sight. -/
import Derived.Test.YtcodncddaemhlaaDoorBase
namespace Go.Proofs.YtcodncddaemhlaaDoor

/-- A piece: for any bytes, or for one byte of a set. -/
structure GP where
  any : Bool
  set : Nat → Bool
def addS (S : Nat → Bool) (a b : UInt8) : Nat → Bool := fun c => S c || (decide (a.toNat ≤ c) && decide (c ≤ b.toNat))
def oddC (c : UInt8) : Bool := c == 91 || c == 93 || c == 92 || c == 45 || c == 33
/-- One item of a set: from, to, what stands behind it. -/
def itemG (a : UInt8) (t : List UInt8) : UInt8 × List UInt8 := match t with
  | 45 :: y :: r => (y, r)
  | _ => (a, t)
theorem itemG_len (a : UInt8) (t : List UInt8) : (itemG a t).2.length ≤ t.length := by
  unfold itemG
  split
  · simp; omega
  · exact Nat.le_refl _
/-- The set as the program reads it, to the bracket that ends it. -/
def clsP (many : Nat) (S : Nat → Bool) : List UInt8 → Option ((Nat → Bool) × List UInt8)
  | [] => none
  | a :: t => if a = 93 then (if many = 0 then none else some (S, t)) else if oddC a || oddC (itemG a t).1 || decide ((itemG a t).1 < a) then none else clsP (many + 1) (addS S a (itemG a t).1) (itemG a t).2
termination_by s => s.length
decreasing_by have := itemG_len a t; simp; omega
/-- The items as the reference reads them. -/
def itemsR (S : Nat → Bool) : List UInt8 → Option (Nat → Bool)
  | [] => some S
  | a :: t => if oddC a || oddC (itemG a t).1 || decide ((itemG a t).1 < a) then none else itemsR (addS S a (itemG a t).1) (itemG a t).2
termination_by s => s.length
decreasing_by have := itemG_len a t; simp; omega
theorem itemsR_dash (S : Nat → Bool) : itemsR S [45] = none := by
  rw [itemsR]
  simp [itemG, oddC]
theorem itemG_two (a y : UInt8) (r : List UInt8) : itemG a (45 :: y :: r) = (y, r) := rfl
theorem itemG_nil (a : UInt8) : itemG a [] = (a, []) := rfl
theorem itemG_one (a x : UInt8) : itemG a [x] = (a, [x]) := by
  unfold itemG
  split
  · rename_i h; injection h with _ h; cases h
  · rfl
theorem itemG_other (a x : UInt8) (t : List UInt8) (h : x ≠ 45) : itemG a (x :: t) = (a, x :: t) := by
  unfold itemG
  split
  · rename_i h'; injection h' with h' _; exact absurd h' h
  · rfl
/-- Where the bracket comes: the two readings are one. -/
theorem cls_items : ∀ (n : Nat) (seg r : List UInt8) (many : Nat) (S : Nat → Bool), seg.length ≤ n → (∀ x ∈ seg, x ≠ 93) → clsP many S (seg ++ 93 :: r) = if many = 0 ∧ seg = [] then none else (itemsR S seg).map fun S' => (S', r) := by
  intro n
  induction n with
  | zero =>
    intro seg r many S hn hs
    obtain rfl : seg = [] := List.length_eq_zero_iff.1 (by omega)
    rw [List.nil_append, clsP, if_pos rfl, itemsR]
    by_cases hm : many = 0 <;> simp [hm]
  | succ n ih =>
    intro seg r many S hn hs
    cases seg with
    | nil =>
      rw [List.nil_append, clsP, if_pos rfl, itemsR]
      by_cases hm : many = 0 <;> simp [hm]
    | cons a t =>
      have ha : a ≠ 93 := hs a (by simp)
      have hif : ¬ (many = 0 ∧ a :: t = []) := by simp
      rw [if_neg hif, List.cons_append, clsP, if_neg ha, itemsR]
      have same : ∀ (b : UInt8) (q : List UInt8), q.length ≤ n → (∀ x ∈ q, x ≠ 93) → (if oddC a || oddC b || decide (b < a) then none else clsP (many + 1) (addS S a b) (q ++ 93 :: r)) = (if oddC a || oddC b || decide (b < a) then none else itemsR (addS S a b) q).map fun S' => (S', r) := fun b q hq hq' => by
        split
        · rfl
        · rw [ih q r (many + 1) _ hq hq', if_neg (by omega)]
      match t, hs, hn with
      | [], hs, hn =>
        rw [List.nil_append, itemG_nil, itemG_other a 93 r (by decide)]
        exact same a [] (by simp) (by simp)
      | [x], hs, hn =>
        by_cases hx : x = 45
        · subst hx
          have h1 : itemG a ([45] ++ 93 :: r) = (93, r) := rfl
          have h2 : oddC 93 = true := rfl
          rw [h1, itemG_one, h2, itemsR_dash]
          simp
        · rw [List.singleton_append, itemG_other a x _ hx, itemG_one]
          exact same a [x] (by simp at hn ⊢; omega) (fun y hy => hs y (by simp at hy ⊢; exact .inr hy))
      | x :: y :: q, hs, hn =>
        by_cases hx : x = 45
        · subst hx
          have h1 : itemG a ((45 :: y :: q) ++ 93 :: r) = (y, q ++ 93 :: r) := rfl
          rw [h1, itemG_two]
          exact same y q (by simp at hn ⊢; omega) (fun z hz => hs z (by simp [hz]))
        · rw [List.cons_append, itemG_other a x _ hx, itemG_other a x _ hx]
          exact same a (x :: y :: q) (by simp at hn ⊢; omega) (fun z hz => hs z (by simp at hz ⊢; exact .inr hz))
/-- Where no bracket comes, the program's reading fails. -/
theorem cls_none : ∀ (n : Nat) (s : List UInt8) (many : Nat) (S : Nat → Bool), s.length ≤ n → (∀ x ∈ s, x ≠ 93) → clsP many S s = none := by
  intro n
  induction n with
  | zero =>
    intro s many S hn hs
    obtain rfl : s = [] := List.length_eq_zero_iff.1 (by omega)
    rw [clsP]
  | succ n ih =>
    intro s many S hn hs
    cases s with
    | nil => rw [clsP]
    | cons a t =>
      rw [clsP, if_neg (hs a (by simp))]
      split
      · rfl
      · have h1 := itemG_len a t
        have h2 : ∀ x ∈ (itemG a t).2, x ∈ t := by
          unfold itemG
          split
          · intro x hx; simp [hx]
          · intro x hx; exact hx
        exact ih _ _ _ (by simp at hn; omega) (fun x hx => hs x (by simp [h2 x hx]))

/-! ### What pieces stand for -/
def anyAt (l : List GP) (k : Nat) : Bool := match l[k]? with | some p => p.any | none => false
def setAt (l : List GP) (k : Nat) (c : Nat) : Bool := match l[k]? with | some p => p.set c | none => false
/-- The first k pieces stand for the first i bytes. -/
def rf (l : List GP) (s : List Nat) : Nat → Nat → Bool
  | 0, i => i == 0
  | k + 1, 0 => anyAt l k && rf l s k 0
  | k + 1, i + 1 => if anyAt l k then rf l s k (i + 1) || rf l s (k + 1) i else rf l s k i && setAt l k (s[i]?.getD 0)
/-- One may be at piece k behind i bytes. -/
def bf (l : List GP) (s : List Nat) (k i : Nat) : Bool := if anyAt l k then rf l s (k + 1) i else rf l s k i
/-- At which pieces one is, all that stand for no byte gone through. -/
def clB (l : List GP) (B : Nat → Bool) : Nat → Bool
  | 0 => B 0
  | k + 1 => B (k + 1) || (anyAt l k && clB l B k)
def nxB (l : List GP) (A : Nat → Bool) (c : Nat) : Nat → Bool
  | 0 => A 0 && anyAt l 0
  | k + 1 => (A (k + 1) && anyAt l (k + 1)) || (A k && !anyAt l k && setAt l k c)
theorem bf_zero (l : List GP) (s : List Nat) : ∀ k, clB l (fun k => k == 0) k = bf l s k 0 := by
  have key : ∀ k, clB l (fun k => k == 0) k = rf l s k 0 := fun k => by
    induction k with
    | zero => rw [clB, rf]
    | succ k ih => rw [clB, rf, ih]; rfl
  intro k
  rw [key]
  unfold bf
  split
  · rename_i h; rw [rf, h, Bool.true_and]
  · rfl
theorem bf_succ (l : List GP) (s : List Nat) (i : Nat) : ∀ k, clB l (nxB l (fun k => bf l s k i) (s[i]?.getD 0)) k = bf l s k (i + 1) := by
  intro k
  induction k with
  | zero =>
    rw [clB, nxB]
    unfold bf
    cases h : anyAt l 0 <;> simp [rf, h]
  | succ k ih =>
    rw [clB, nxB, ih]
    unfold bf
    cases h1 : anyAt l (k + 1) <;> cases h0 : anyAt l k <;> simp [rf, h0, h1]
    · exact Bool.or_comm _ _
    · exact Bool.or_comm _ _
theorem bf_end (l : List GP) (s : List Nat) (i : Nat) : bf l s l.length i = rf l s l.length i := by
  unfold bf anyAt
  rw [List.getElem?_eq_none (Nat.le_refl _)]
  rfl
end Go.Proofs.YtcodncddaemhlaaDoor
/- Patterns, in plain Lean: a pattern taken apart; its plain text; a text quoted. No program in sight. -/
namespace Go.Proofs.YtcodncddaemhlaaDoor

/-- A piece with the byte that it stands for alone; -1: not one. -/
structure GQ where
  p : GP
  self : Int
def noS : Nat → Bool := fun _ => false
def turnS (S : Nat → Bool) : Nat → Bool := fun c => decide (c < 256) && !S c
def oneS (d : UInt8) : Nat → Bool := addS noS d d
def negB (t : List UInt8) : Bool := t.head? == some 33
def behB (t : List UInt8) : List UInt8 := if negB t then t.tail else t
def setB (t : List UInt8) (S : Nat → Bool) : Nat → Bool := if negB t then turnS S else S
/-- The first piece of a pattern, and what stands behind it. -/
def stepG (c : UInt8) (t : List UInt8) : Option (GQ × List UInt8) :=
  if c = 42 then some (⟨⟨true, noS⟩, -1⟩, t)
  else if c = 63 then some (⟨⟨false, turnS noS⟩, -1⟩, t)
  else if c = 91 then (clsP 0 noS (behB t)).map fun x => (⟨⟨false, setB t x.1⟩, -1⟩, x.2)
  else if c = 93 then none
  else if c = 92 then (match t with
    | [] => none
    | d :: r => some (⟨⟨false, oneS d⟩, d.toNat⟩, r))
  else some (⟨⟨false, oneS c⟩, c.toNat⟩, t)
theorem clsP_len : ∀ (n : Nat) (s : List UInt8) (many : Nat) (S : Nat → Bool) (x : (Nat → Bool) × List UInt8), s.length ≤ n → clsP many S s = some x → x.2.length < s.length := by
  intro n
  induction n with
  | zero =>
    intro s many S x hn h
    obtain rfl : s = [] := List.length_eq_zero_iff.1 (by omega)
    rw [clsP] at h
    cases h
  | succ n ih =>
    intro s many S x hn h
    cases s with
    | nil => rw [clsP] at h; cases h
    | cons a t =>
      rw [clsP] at h
      have h1 := itemG_len a t
      simp only [List.length_cons] at hn ⊢
      split at h
      · split at h
        · cases h
        · injection h with h
          subst h
          exact Nat.lt_succ_self _
      · split at h
        · cases h
        · have := ih _ _ _ x (by omega) h
          omega
theorem behB_len (t : List UInt8) : (behB t).length ≤ t.length := by
  unfold behB
  split
  · simp
  · exact Nat.le_refl _
theorem stepG_len {c : UInt8} {t : List UInt8} {x : GQ × List UInt8} (h : stepG c t = some x) : x.2.length ≤ t.length := by
  unfold stepG at h
  split at h
  · injection h with h; subst h; exact Nat.le_refl _
  · split at h
    · injection h with h; subst h; exact Nat.le_refl _
    · split at h
      · obtain ⟨y, hy, rfl⟩ := Option.map_eq_some_iff.1 h
        have h1 := clsP_len _ _ _ _ _ (Nat.le_refl _) hy
        have h2 := behB_len t
        show y.2.length ≤ _
        omega
      · split at h
        · cases h
        · split at h
          · cases t with
            | nil => cases h
            | cons d r => injection h with h; subst h; simp
          · injection h with h; subst h; exact Nat.le_refl _
/-- A pattern taken apart. -/
def parseG : List UInt8 → Option (List GQ)
  | [] => some []
  | c :: t => match _h : stepG c t with
    | none => none
    | some x => (parseG x.2).map (x.1 :: ·)
termination_by s => s.length
decreasing_by have := stepG_len _h; simp; omega
theorem parseG_nil : parseG [] = some [] := by rw [parseG]
theorem parseG_no {c : UInt8} {t : List UInt8} (h : stepG c t = none) : parseG (c :: t) = none := by
  rw [parseG]
  split
  · rfl
  · rename_i x hx; rw [h] at hx; cases hx
theorem parseG_yes {c : UInt8} {t : List UInt8} {x : GQ × List UInt8} (h : stepG c t = some x) : parseG (c :: t) = (parseG x.2).map (x.1 :: ·) := by
  rw [parseG]
  split
  · rename_i hx; rw [h] at hx; cases hx
  · rename_i y hy; rw [h] at hy; injection hy with hy; subst hy; rfl
/-- No bracket ends the set. -/
theorem stepG_open {t : List UInt8} (h : ∀ x ∈ t, x ≠ 93) : stepG 91 t = none := by
  have hb : ∀ x ∈ behB t, x ≠ 93 := fun x hx => h x (by
    unfold behB at hx
    split at hx
    · exact List.mem_of_mem_tail hx
    · exact hx)
  have e : stepG 91 t = (clsP 0 noS (behB t)).map fun x => (⟨⟨false, setB t x.1⟩, -1⟩, x.2) := rfl
  rw [e, cls_none _ _ _ _ (Nat.le_refl _) hb]
  rfl
/-- The first bracket behind ends the set. -/
theorem stepG_set {seg r : List UInt8} (h : ∀ x ∈ seg, x ≠ 93) : stepG 91 (seg ++ 93 :: r) = if behB seg = [] then none else (itemsR noS (behB seg)).map fun S => (⟨⟨false, setB seg S⟩, -1⟩, r) := by
  have hn : negB (seg ++ 93 :: r) = negB seg := by
    unfold negB
    cases seg with
    | nil => rfl
    | cons a q => rfl
  have hb : behB (seg ++ 93 :: r) = behB seg ++ 93 :: r := by
    unfold behB
    rw [hn]
    split
    · rename_i hh
      cases seg with
      | nil => cases hh
      | cons a q => rfl
    · rfl
  have hs : ∀ x ∈ behB seg, x ≠ 93 := fun x hx => h x (by
    unfold behB at hx
    split at hx
    · exact List.mem_of_mem_tail hx
    · exact hx)
  have e : stepG 91 (seg ++ 93 :: r) = (clsP 0 noS (behB (seg ++ 93 :: r))).map fun x => (⟨⟨false, setB (seg ++ 93 :: r) x.1⟩, -1⟩, x.2) := rfl
  have hset : ∀ S, setB (seg ++ 93 :: r) S = setB seg S := fun S => by unfold setB; rw [hn]
  rw [e, hb, cls_items _ _ _ _ _ (Nat.le_refl _) hs]
  by_cases h0 : behB seg = []
  · rw [if_pos ⟨rfl, h0⟩, if_pos h0]; rfl
  · rw [if_neg (fun hh => h0 hh.2), if_neg h0, Option.map_map]
    congr 1
    funext S
    simp [hset]

/-- The text that a pattern stands for alone. -/
def plainG : List UInt8 → Option (List UInt8)
  | [] => some []
  | c :: t => if c = 42 ∨ c = 63 ∨ c = 91 then none else if c = 92 then (match t with
    | [] => some []
    | d :: r => (plainG r).map (d :: ·)) else (plainG t).map (c :: ·)
theorem plainG_cons (c : UInt8) (t : List UInt8) : plainG (c :: t) = if c = 42 ∨ c = 63 ∨ c = 91 then none else if c = 92 then (match t with
    | [] => some []
    | d :: r => (plainG r).map (d :: ·)) else (plainG t).map (c :: ·) := by cases t <;> rfl
theorem plain_parse : ∀ (n : Nat) (s : List UInt8) (L : List GQ), s.length ≤ n → parseG s = some L → plainG s = if L.all (fun x => decide (0 ≤ x.self)) then some (L.map fun x => UInt8.ofNat x.self.toNat) else none := by
  intro n
  induction n with
  | zero =>
    intro s L hn h
    obtain rfl : s = [] := List.length_eq_zero_iff.1 (by omega)
    rw [parseG_nil] at h
    injection h with h
    subst h
    rfl
  | succ n ih =>
    intro s L hn h
    cases s with
    | nil =>
      rw [parseG_nil] at h
      injection h with h
      subst h
      rfl
    | cons c t =>
      cases hx : stepG c t with
      | none => rw [parseG_no hx] at h; cases h
      | some x =>
        rw [parseG_yes hx] at h
        obtain ⟨M, hM, rfl⟩ := Option.map_eq_some_iff.1 h
        have hlen := stepG_len hx
        have hn' : t.length ≤ n := by simp at hn; omega
        have hI := ih x.2 M (by omega) hM
        have one : ∀ d : UInt8, UInt8.ofNat (((d.toNat : Int)).toNat) = d := fun d => by simp
        unfold stepG at hx
        by_cases h1 : c = 42
        · subst h1; injection hx with hx; subst hx; rw [plainG_cons]; simp
        · by_cases h2 : c = 63
          · subst h2; injection hx with hx; subst hx; rw [plainG_cons]; simp
          · by_cases h3 : c = 91
            · subst h3
              rw [if_neg h1, if_neg h2, if_pos rfl] at hx
              obtain ⟨y, _, rfl⟩ := Option.map_eq_some_iff.1 hx
              rw [plainG_cons]
              simp
            · by_cases h4 : c = 93
              · subst h4; cases hx
              · rw [if_neg h1, if_neg h2, if_neg h3, if_neg h4] at hx
                by_cases h5 : c = 92
                · subst h5
                  rw [if_pos rfl] at hx
                  cases t with
                  | nil => cases hx
                  | cons d r =>
                    injection hx with hx
                    subst hx
                    have e : plainG (92 :: d :: r) = (plainG r).map (d :: ·) := rfl
                    rw [e, hI]
                    cases hA : M.all (fun x => decide (0 ≤ x.self)) <;> simp [hA]
                · rw [if_neg h5] at hx
                  injection hx with hx
                  subst hx
                  have e : plainG (c :: t) = (plainG t).map (c :: ·) := by rw [plainG_cons, if_neg (by simp [h1, h2, h3]), if_neg h5]
                  rw [e, hI]
                  cases hA : M.all (fun x => decide (0 ≤ x.self)) <;> simp [hA]
/-- A text quoted. -/
def quoG (c : UInt8) : Bool := c == 42 || c == 63 || c == 91 || c == 93 || c == 92
def quoteG (s : List UInt8) : List UInt8 := s.flatMap fun c => if quoG c then [92, c] else [c]
theorem quoteG_snoc (s : List UInt8) (c : UInt8) : quoteG (s ++ [c]) = quoteG s ++ (if quoG c then [92, c] else [c]) := by unfold quoteG; rw [List.flatMap_append]; simp
theorem quoteG_mono (s t : List UInt8) : (quoteG s).length ≤ (quoteG (s ++ t)).length := by unfold quoteG; rw [List.flatMap_append, List.length_append]; omega
end Go.Proofs.YtcodncddaemhlaaDoor
/- Sets of bytes as four words, in plain Lean: a byte taken in, the set turned. No program in sight. -/
namespace Go.Proofs.YtcodncddaemhlaaDoor

/-- Four words hold a set of bytes. -/
structure Wd (ws : List Nat) (S : Nat → Bool) : Prop where
  len : ws.length = 4
  b64 : ∀ x ∈ ws, x < 18446744073709551616
  at_ : ∀ c, c < 256 → (ws[c / 64]?.getD 0).testBit (c % 64) = S c
theorem wd_zero : Wd [0, 0, 0, 0] noS := ⟨rfl, by simp, fun c hc => by
  have : c / 64 < 4 := by omega
  rcases (by omega : c / 64 = 0 ∨ c / 64 = 1 ∨ c / 64 = 2 ∨ c / 64 = 3) with h | h | h | h <;> rw [h] <;> simp [noS]⟩
theorem wd_ext {ws : List Nat} {S S' : Nat → Bool} (h : Wd ws S) (hs : ∀ c, c < 256 → S c = S' c) : Wd ws S' := ⟨h.len, h.b64, fun c hc => (h.at_ c hc).trans (hs c hc)⟩
theorem wd_get {ws : List Nat} {S : Nat → Bool} (h : Wd ws S) {q : Nat} (hq : q < 4) : ∃ x, ws[q]? = some x ∧ x < 18446744073709551616 :=
  ⟨ws[q]'(by rw [h.len]; exact hq), List.getElem?_eq_getElem (by rw [h.len]; exact hq), h.b64 _ (List.getElem_mem _)⟩
theorem wd_add {ws : List Nat} {S : Nat → Bool} (h : Wd ws S) {c : Nat} (hc : c < 256) {x : Nat} (hx : ws[c / 64]? = some x) : Wd (ws.set (c / 64) (x ||| 2 ^ (c % 64))) (fun d => S d || d == c) := by
  have hq : c / 64 < 4 := by omega
  have hxb : x < 2 ^ 64 := h.b64 x (List.mem_of_getElem? hx)
  refine ⟨by rw [List.length_set]; exact h.len, fun y hy => ?_, fun d hd => ?_⟩
  · rcases List.mem_or_eq_of_mem_set hy with hy | rfl
    · exact h.b64 y hy
    · exact Nat.or_lt_two_pow hxb (Nat.pow_lt_pow_right (by decide) (Nat.mod_lt _ (by decide)))
  · have hd' := h.at_ d hd
    rw [← hd']
    by_cases hdc : d / 64 = c / 64
    · rw [hdc, List.getElem?_set_self (by rw [h.len]; exact hq), hx, Option.getD_some, Option.getD_some, Nat.testBit_or, Nat.testBit_two_pow]
      by_cases he : d = c
      · subst he; simp
      · have : c % 64 ≠ d % 64 := by omega
        simp [he, this]
    · rw [List.getElem?_set_ne (by omega)]
      have he : d ≠ c := fun e => hdc (by rw [e])
      simp [he]
theorem wd_turn {ws : List Nat} {S : Nat → Bool} (h : Wd ws S) : Wd (ws.map fun x => 18446744073709551615 - x) (turnS S) := by
  refine ⟨by rw [List.length_map]; exact h.len, fun y hy => ?_, fun d hd => ?_⟩
  · obtain ⟨x, _, rfl⟩ := List.mem_map.1 hy
    omega
  · have hq : d / 64 < 4 := by omega
    obtain ⟨x, hx, hxb⟩ := wd_get h hq
    have hd' := h.at_ d hd
    rw [hx, Option.getD_some] at hd'
    rw [List.getElem?_map, hx, Option.map_some, Option.getD_some]
    have e : 18446744073709551615 - x = 2 ^ 64 - (x + 1) := by omega
    rw [e, Nat.testBit_two_pow_sub_succ hxb, hd']
    unfold turnS
    simp [hd]
    omega
/-- All bytes from a up to below c taken in. -/
def upS (S : Nat → Bool) (a : UInt8) (c : Nat) : Nat → Bool := fun d => S d || (decide (a.toNat ≤ d) && decide (d < c))
theorem upS_zero (S : Nat → Bool) (a : UInt8) : upS S a a.toNat = S := by
  funext d
  unfold upS
  by_cases h : a.toNat ≤ d
  · have : ¬ d < a.toNat := by omega
    simp [this]
  · simp [h]
theorem upS_succ (S : Nat → Bool) (a : UInt8) {c : Nat} (h : a.toNat ≤ c) (d : Nat) : (upS S a c d || d == c) = upS S a (c + 1) d := by
  unfold upS
  by_cases he : d = c
  · subst he; simp [h]
  · have : decide (d < c + 1) = decide (d < c) := by
      apply decide_eq_decide.2
      omega
    simp [he, this]
theorem upS_end (S : Nat → Bool) (a b : UInt8) : upS S a (b.toNat + 1) = addS S a b := by
  funext d
  unfold upS addS
  have : decide (d < b.toNat + 1) = decide (d ≤ b.toNat) := by
    apply decide_eq_decide.2
    omega
  rw [this]
/-! ### The steps of the rows -/
theorem rf_any {l : List GP} {s : List Nat} {k : Nat} (h : anyAt l k = true) (i : Nat) : rf l s (k + 1) (i + 1) = (rf l s (k + 1) i || rf l s k (i + 1)) := by rw [rf, if_pos h]; exact Bool.or_comm _ _
theorem rf_any0 {l : List GP} {s : List Nat} {k : Nat} (h : anyAt l k = true) : rf l s (k + 1) 0 = rf l s k 0 := by rw [rf, h, Bool.true_and]
theorem rf_one {l : List GP} {s : List Nat} {k : Nat} (h : anyAt l k = false) (i : Nat) : rf l s (k + 1) (i + 1) = (rf l s k i && setAt l k (s[i]?.getD 0)) := by rw [rf, if_neg (by rw [h]; decide)]
theorem rf_one0 {l : List GP} {s : List Nat} {k : Nat} (h : anyAt l k = false) : rf l s (k + 1) 0 = false := by rw [rf, h, Bool.false_and]
def errG (p : List UInt8) : Nat := if 60 < p.length then 2 else if (parseG p).isNone then 3 else 0
end Go.Proofs.YtcodncddaemhlaaDoor
