/- The same in fewer words, in plain Lean: the text of an ask; what the first rule that fits tells; an ask in which no rule fits. No program in sight. -/
import Derived.Test.YtcodncddaemhlaaDoorAskPlain
import Derived.Lib.ItoaNum
namespace Go.Proofs.YtcodncddaemhlaaDoor

/-! ### Texts -/
def wordA (k : Int) : List UInt8 := if k = 8 ∨ k = 10 then [100, 101, 112, 115] else if k = 9 ∨ k = 11 then [117, 115, 101, 114, 115] else if k = 12 then [119, 97, 121, 115] else if k = 13 then [115, 111, 109, 101] else [109, 97, 116, 99, 104]
def signA (k : Int) : List UInt8 := if k = 5 then [43] else if k = 6 then [94] else [45]
def kindA (n : Int) : List UInt8 := if n = 1 then [109, 97, 100, 101] else if n = 2 then [112, 104, 111, 110, 121] else [112, 108, 97, 105, 110]
def textK (k : Int) (s : List UInt8) (n : Int) (a b : List UInt8) : List UInt8 :=
  if k = 1 then s
  else if k = 2 then [42]
  else if k = 3 then [36] ++ s
  else if k = 4 then [40, 108, 101, 116, 32] ++ s ++ [32, 61, 32] ++ a ++ [32, 105, 110, 32] ++ b ++ [41]
  else if k = 5 ∨ k = 6 ∨ k = 7 then [40] ++ a ++ [32] ++ signA k ++ [32] ++ b ++ [41]
  else if k = 8 ∨ k = 9 then wordA k ++ [40] ++ a ++ [41]
  else if k = 10 ∨ k = 11 then wordA k ++ [40] ++ (a ++ [44, 32] ++ Lib.itoa n) ++ [41]
  else if k = 12 ∨ k = 13 then wordA k ++ [40] ++ (a ++ [44, 32] ++ b) ++ [41]
  else if k = 14 then wordA k ++ [40] ++ (s ++ [44, 32] ++ a) ++ [41]
  else kindA n ++ [40] ++ a ++ [41]
def textA : AskT → List UInt8
  | .mk k s n X => textK k s n ((X.attach.map fun x => textA x.1).getD 0 []) ((X.attach.map fun x => textA x.1).getD 1 [])
  decreasing_by all_goals (have := List.sizeOf_lt_of_mem x.2; simp_all; omega)
theorem textA_mk (k : Int) (s : List UInt8) (n : Int) (X : List AskT) : textA (.mk k s n X) = textK k s n ((X.map textA).getD 0 []) ((X.map textA).getD 1 []) := by
  rw [textA, attach_val X textA]
/-! ### Rules -/
def twoA (k : Int) (a b : AskT) : Option AskT :=
  if textA a = textA b then some a
  else if k = 5 ∧ (a.kind = 2 ∨ b.kind = 2) then some (.mk 2 [] 0 [])
  else if a.kind = 2 then some b
  else if b.kind = 2 then some a
  else if textA b < textA a then some (.mk k [] 0 [b, a])
  else none
def wholeK (k : Int) : Int := if k = 8 ∨ k = 10 then 8 else 9
def walkA (k n : Int) (y : AskT) : Option AskT :=
  if k = wholeK k + 2 ∧ n = 0 then some y
  else if y.kind = 2 then some (.mk 2 [] 0 [])
  else if k = wholeK k ∧ (y.kind = wholeK k ∨ y.kind = wholeK k + 2) then some (.mk (wholeK k) [] 0 y.X)
  else if y.kind = wholeK k then some y
  else if y.kind = wholeK k + 2 ∧ n + y.n ≤ 100 then some (.mk (wholeK k + 2) [] (n + y.n) y.X)
  else none
def pairO {α : Type} (d : α) (X : List AskT) (f : AskT → AskT → α) : α := match X with
  | [a, b] => f a b
  | _ => d
def oneO {α : Type} (d : α) (X : List AskT) (f : AskT → α) : α := match X with
  | [a] => f a
  | _ => d
def butA (a b : AskT) : Option AskT := if b.kind = 7 then pairO none b.X (fun c d => if textA c = textA a then some (.mk 6 [] 0 [a, d]) else none) else none
def sameA (k : Int) (s : List UInt8) (n : Int) (y : AskT) : Option AskT := if y.kind = k ∧ y.name = s ∧ y.n = n then some y else none
def ruledA : AskT → Option AskT
  | .mk k s n X =>
    if k = 5 ∨ k = 6 then pairO none X (twoA k)
    else if k = 8 ∨ k = 9 ∨ k = 10 ∨ k = 11 then oneO none X (walkA k n)
    else if k = 14 ∨ k = 15 then oneO none X (sameA k s n)
    else if k = 7 then pairO none X butA
    else none
theorem ruledA_mk (k : Int) (s : List UInt8) (n : Int) (X : List AskT) : ruledA (.mk k s n X) = if k = 5 ∨ k = 6 then pairO none X (twoA k) else if k = 8 ∨ k = 9 ∨ k = 10 ∨ k = 11 then oneO none X (walkA k n) else if k = 14 ∨ k = 15 then oneO none X (sameA k s n) else if k = 7 then pairO none X butA else none := rfl
def swapA : AskT → Nat
  | .mk k _ _ X => if k = 5 ∨ k = 6 then pairO 0 X (fun a b => if textA b < textA a then 1 else 0) else 0
theorem swapA_mk (k : Int) (s : List UInt8) (n : Int) (X : List AskT) : swapA (.mk k s n X) = if k = 5 ∨ k = 6 then pairO 0 X (fun a b => if textA b < textA a then 1 else 0) else 0 := rfl
theorem swapA_le (x : AskT) : swapA x ≤ 1 := by
  obtain ⟨k, s, n, X⟩ := x
  rw [swapA_mk]
  by_cases h : k = 5 ∨ k = 6
  · rw [if_pos h]
    match X with
    | [] => exact Nat.zero_le _
    | [_] => exact Nat.zero_le _
    | [a, b] =>
      show (if textA b < textA a then 1 else 0) ≤ 1
      split <;> omega
    | _ :: _ :: _ :: _ => exact Nat.zero_le _
  · rw [if_neg h]
    exact Nat.zero_le _
/-- Valid: the form is right, everywhere. -/
def okA (x : AskT) : Prop := faultA x = 0
theorem ok_kids {k : Int} {s : List UInt8} {n : Int} {X : List AskT} (h : okA (.mk k s n X)) : ∀ y ∈ X, okA y := (fault_node h).2
theorem ok_node {k : Int} {s : List UInt8} {n : Int} {X : List AskT} (h : okA (.mk k s n X)) : nodeE k s n X.length = 0 := (fault_node h).1
theorem ok_mk {k : Int} {s : List UInt8} {n : Int} {X : List AskT} (h : nodeE k s n X.length = 0) (hX : ∀ y ∈ X, okA y) : okA (.mk k s n X) := by
  unfold okA
  rw [faultA_mk, if_neg (fun e => e h)]
  exact firstNZ_zero (fun v hv => by obtain ⟨y, hy, rfl⟩ := List.mem_map.1 hv; exact hX y hy)
theorem node_plain {k : Int} {m : Nat} (h : k = 2 ∨ k = 5 ∨ k = 6 ∨ k = 7 ∨ k = 8 ∨ k = 9 ∨ k = 12 ∨ k = 13) (hm : m = manyK k) : nodeE k [] 0 m = 0 := by
  subst hm
  rcases h with rfl | rfl | rfl | rfl | rfl | rfl | rfl | rfl <;> decide
theorem node_part {k n : Int} (h : k = 10 ∨ k = 11) (h0 : 0 ≤ n) (h1 : n ≤ 100) : nodeE k [] n 1 = 0 := by
  rcases h with rfl | rfl <;> (simp [nodeE, manyK, namedK, numK]; omega)
theorem ok_form {k : Int} {s : List UInt8} {n : Int} {X : List AskT} (h : okA (.mk k s n X)) : 1 ≤ k ∧ k ≤ 15 ∧ X.length = manyK k ∧ (namedK k = false → s = []) ∧ (numK k = false → n = 0) := by
  have h0 := ok_node h
  unfold nodeE at h0
  split at h0
  · cases h0
  split at h0
  · cases h0
  · rename_i h1 h2
    refine ⟨by omega, by omega, Decidable.byContradiction fun e => h2 (.inl e), fun hn => Decidable.byContradiction fun e => h2 (.inr (.inl ⟨hn, e⟩)), fun hn => Decidable.byContradiction fun e => h2 (.inr (.inr ⟨hn, e⟩))⟩
theorem ok_num {k : Int} {s : List UInt8} {n : Int} {X : List AskT} (h : okA (.mk k s n X)) (hk : k = 10 ∨ k = 11) : 0 ≤ n ∧ n ≤ 100 := by
  have h0 := ok_node h
  obtain ⟨_, _, hm, hs, _⟩ := ok_form h
  rw [hm, hs (by rcases hk with rfl | rfl <;> rfl)] at h0
  rcases hk with rfl | rfl <;> (simp [nodeE, namedK, numK] at h0; omega)
theorem ok_num15 {s : List UInt8} {n : Int} {X : List AskT} (h : okA (.mk 15 s n X)) : 1 ≤ n ∧ n ≤ 3 := by
  have h0 := ok_node h
  obtain ⟨_, _, hm, hs, _⟩ := ok_form h
  rw [hm, hs rfl] at h0
  simp [nodeE, namedK, numK] at h0
  omega
theorem ok_two {k : Int} {s : List UInt8} {n : Int} {X : List AskT} (h : okA (.mk k s n X)) (hk : k = 4 ∨ k = 5 ∨ k = 6 ∨ k = 7 ∨ k = 12 ∨ k = 13) : ∃ a b, X = [a, b] := by
  obtain ⟨_, _, hm, _, _⟩ := ok_form h
  have h2 : X.length = 2 := by rw [hm]; rcases hk with rfl | rfl | rfl | rfl | rfl | rfl <;> rfl
  match X, h2 with
  | [a, b], _ => exact ⟨a, b, rfl⟩
theorem ok_one {k : Int} {s : List UInt8} {n : Int} {X : List AskT} (h : okA (.mk k s n X)) (hk : k = 8 ∨ k = 9 ∨ k = 10 ∨ k = 11 ∨ k = 14 ∨ k = 15) : ∃ a, X = [a] := by
  obtain ⟨_, _, hm, _, _⟩ := ok_form h
  have h2 : X.length = 1 := by rw [hm]; rcases hk with rfl | rfl | rfl | rfl | rfl | rfl <;> rfl
  match X, h2 with
  | [a], _ => exact ⟨a, rfl⟩
theorem ok_none {k : Int} {s : List UInt8} {n : Int} {X : List AskT} (h : okA (.mk k s n X)) (hk : k = 1 ∨ k = 2 ∨ k = 3) : X = [] := by
  obtain ⟨_, _, hm, _, _⟩ := ok_form h
  exact List.length_eq_zero_iff.1 (by rw [hm]; rcases hk with rfl | rfl | rfl <;> rfl)
/-- What a rule makes: what it is made of, and that it is less. -/
structure Made (P : AskT → Prop) (x y : AskT) : Prop where
  ok : okA y
  kids : ∀ z ∈ y.X, P z
  less : 2 * sizeA y + swapA y < 2 * sizeA x + swapA x
  size : sizeA y ≤ sizeA x
theorem kind_all {a : AskT} (h : okA a) (hk : a.kind = 2) : a = .mk 2 [] 0 [] := by
  obtain ⟨k, s, n, X⟩ := a
  have hk' : k = 2 := hk
  subst hk'
  obtain ⟨_, _, _, h1, h2⟩ := ok_form h
  rw [h1 rfl, h2 rfl, ok_none h (.inr (.inl rfl))]
theorem okAll : okA (.mk 2 [] 0 []) := ok_mk (node_plain (.inl rfl) rfl) (fun y hy => by cases hy)
theorem sz1 (k : Int) (s : List UInt8) (n : Int) (a : AskT) : sizeA (.mk k s n [a]) = 1 + sizeA a := by rw [sizeA_mk]; simp
theorem sz2 (k : Int) (s : List UInt8) (n : Int) (a b : AskT) : sizeA (.mk k s n [a, b]) = 1 + sizeA a + sizeA b := by rw [sizeA_mk]; simp; omega
theorem sz0 (k : Int) (s : List UInt8) (n : Int) : sizeA (.mk k s n []) = 1 := by rw [sizeA_mk]; simp
theorem szX (k : Int) (s : List UInt8) (n : Int) (y : AskT) : sizeA (.mk k s n y.X) = sizeA y := by obtain ⟨k', s', n', X'⟩ := y; rw [sizeA_mk, sizeA_mk]; rfl
/-- What is asked of the ends of a predicate that every part of a part has too. -/
def Down (P : AskT → Prop) : Prop := ∀ y, P y → ∀ z ∈ y.X, P z
theorem ruled_made {P : AskT → Prop} (hP : Down P) {x y : AskT} (hx : okA x) (hk : ∀ z ∈ x.X, P z) (h : ruledA x = some y) : Made P x y := by
  obtain ⟨k, s, n, X⟩ := x
  have hkid := ok_kids hx
  rw [ruledA_mk] at h
  by_cases hk5 : k = 5 ∨ k = 6
  · rw [if_pos hk5] at h
    obtain ⟨a, b, rfl⟩ := ok_two hx (by omega)
    have ha := hkid a (by simp)
    have hb := hkid b (by simp)
    have pa : P a := hk a (by simp [AskT.X])
    have pb : P b := hk b (by simp [AskT.X])
    have s1 := sizeA_pos a
    have s2 := sizeA_pos b
    have w1 := swapA_le a
    have w2 := swapA_le b
    have hz := sz2 k s n a b
    replace h : twoA k a b = some y := h
    unfold twoA at h
    by_cases h1 : textA a = textA b
    · rw [if_pos h1] at h
      injection h with h; subst h
      exact ⟨ha, hP _ pa, by omega, by omega⟩
    rw [if_neg h1] at h
    by_cases h2 : k = 5 ∧ (a.kind = 2 ∨ b.kind = 2)
    · rw [if_pos h2] at h
      injection h with h; subst h
      have := swapA_le (.mk 2 [] 0 [])
      have := sz0 2 [] 0
      exact ⟨okAll, (fun z hz => by cases hz), by omega, by omega⟩
    rw [if_neg h2] at h
    by_cases h3 : a.kind = 2
    · rw [if_pos h3] at h
      injection h with h; subst h
      exact ⟨hb, hP _ pb, by omega, by omega⟩
    rw [if_neg h3] at h
    by_cases h4 : b.kind = 2
    · rw [if_pos h4] at h
      injection h with h; subst h
      exact ⟨ha, hP _ pa, by omega, by omega⟩
    rw [if_neg h4] at h
    by_cases hlt : textA b < textA a
    · rw [if_pos hlt] at h
      injection h with h; subst h
      have hz2 := sz2 k [] 0 b a
      have e1 : swapA (.mk k s n [a, b]) = 1 := by
        rw [swapA_mk, if_pos hk5]
        exact if_pos hlt
      have e2 : swapA (.mk k [] 0 [b, a]) = 0 := by
        rw [swapA_mk, if_pos hk5]
        exact if_neg (fun h => List.lt_asymm hlt h)
      refine ⟨ok_mk (node_plain (by omega) (by rcases hk5 with rfl | rfl <;> rfl)) ?_, ?_, by omega, by omega⟩
      · intro z hz
        rcases List.mem_cons.1 hz with rfl | hz
        · exact hb
        · rw [List.mem_singleton.1 hz]; exact ha
      · intro z hz
        rcases List.mem_cons.1 hz with rfl | hz
        · exact pb
        · rw [List.mem_singleton.1 hz]; exact pa
    · rw [if_neg hlt] at h
      cases h
  rw [if_neg hk5] at h
  by_cases hk8 : k = 8 ∨ k = 9 ∨ k = 10 ∨ k = 11
  · rw [if_pos hk8] at h
    obtain ⟨a, rfl⟩ := ok_one hx (by omega)
    have ha := hkid a (by simp)
    have pa : P a := hk a (by simp [AskT.X])
    have w1 := swapA_le a
    have hz := sz1 k s n a
    have hw : wholeK k = 8 ∨ wholeK k = 9 := by unfold wholeK; split <;> simp
    have hwk : k = wholeK k ∨ k = wholeK k + 2 := by unfold wholeK; split <;> omega
    replace h : walkA k n a = some y := h
    unfold walkA at h
    generalize wholeK k = wk at *
    by_cases h1 : k = wk + 2 ∧ n = 0
    · rw [if_pos h1] at h
      injection h with h; subst h
      exact ⟨ha, hP _ pa, by omega, by omega⟩
    rw [if_neg h1] at h
    by_cases h2 : a.kind = 2
    · rw [if_pos h2] at h
      injection h with h; subst h
      have := swapA_le (.mk 2 [] 0 [])
      have := sz0 2 [] 0
      have := sizeA_pos a
      exact ⟨okAll, (fun z hz => by cases hz), by omega, by omega⟩
    rw [if_neg h2] at h
    by_cases hq : k = wk ∧ (a.kind = wk ∨ a.kind = wk + 2)
    · rw [if_pos hq] at h
      injection h with h; subst h
      have := swapA_le (.mk wk [] 0 a.X)
      have e := szX wk [] 0 a
      have hone : a.X.length = 1 := by
        obtain ⟨k', s', n', X'⟩ := a
        obtain ⟨_, _, hm, _, _⟩ := ok_form ha
        have hq2 : k' = wk ∨ k' = wk + 2 := hq.2
        show X'.length = 1
        rw [hm]
        rcases hw with rfl | rfl <;> rcases hq2 with rfl | rfl <;> rfl
      exact ⟨ok_mk (node_plain (by omega) (by rw [hone]; rcases hw with rfl | rfl <;> rfl)) (by obtain ⟨k', s', n', X'⟩ := a; exact ok_kids ha), (fun z hz => hP a pa z hz), by omega, by omega⟩
    rw [if_neg hq] at h
    by_cases h4 : a.kind = wk
    · rw [if_pos h4] at h
      injection h with h; subst h
      exact ⟨ha, hP _ pa, by omega, by omega⟩
    rw [if_neg h4] at h
    by_cases h5 : a.kind = wk + 2 ∧ n + a.n ≤ 100
    · rw [if_pos h5] at h
      injection h with h; subst h
      have := swapA_le (.mk (wk + 2) [] (n + a.n) a.X)
      have e := szX (wk + 2) [] (n + a.n) a
      have hone : a.X.length = 1 ∧ 0 ≤ a.n := by
        obtain ⟨k', s', n', X'⟩ := a
        obtain ⟨_, _, hm, _, _⟩ := ok_form ha
        have hq2 : k' = wk + 2 := h5.1
        have h10 := ok_num ha (by omega)
        refine ⟨?_, h10.1⟩
        show X'.length = 1
        rw [hm, hq2]
        rcases hw with rfl | rfl <;> rfl
      have hkp : k = wk + 2 := by
        rcases hwk with e | e
        · exact absurd ⟨e, .inr h5.1⟩ hq
        · exact e
      have hn := ok_num hx (by omega)
      exact ⟨ok_mk (by rw [hone.1]; exact node_part (by omega) (by omega) h5.2) (by obtain ⟨k', s', n', X'⟩ := a; exact ok_kids ha), (fun z hz => hP a pa z hz), by omega, by omega⟩
    · rw [if_neg h5] at h
      cases h
  rw [if_neg hk8] at h
  by_cases hk14 : k = 14 ∨ k = 15
  · rw [if_pos hk14] at h
    obtain ⟨a, rfl⟩ := ok_one hx (by omega)
    have w1 := swapA_le a
    have hz := sz1 k s n a
    replace h : sameA k s n a = some y := h
    unfold sameA at h
    split at h
    · injection h with h; subst h
      exact ⟨hkid a (by simp), hP _ (hk a (by simp [AskT.X])), by omega, by omega⟩
    · cases h
  rw [if_neg hk14] at h
  by_cases hk7 : k = 7
  · rw [if_pos hk7] at h
    obtain ⟨a, b, rfl⟩ := ok_two hx (by omega)
    replace h : butA a b = some y := h
    unfold butA at h
    have hb := hkid b (by simp)
    have pb : P b := hk b (by simp [AskT.X])
    by_cases hb7 : b.kind = 7
    · rw [if_pos hb7] at h
      obtain ⟨k', s', n', X'⟩ := b
      have hb7' : k' = 7 := hb7
      subst hb7'
      obtain ⟨c, d, rfl⟩ := ok_two hb (by omega)
      replace h : (if textA c = textA a then some (AskT.mk 6 [] 0 [a, d]) else none) = some y := h
      split at h
      · injection h with h; subst h
        have hd := ok_kids hb d (by simp)
        have pd := hP _ pb d (by simp [AskT.X])
        have h1 := sz2 6 [] 0 a d
        have h2 := sz2 k s n a (.mk 7 s' n' [c, d])
        have h3 := sz2 7 s' n' c d
        have h4 := swapA_le (.mk 6 [] 0 [a, d])
        refine ⟨ok_mk (node_plain (by omega) rfl) ?_, ?_, by omega, by omega⟩
        · intro z hz
          rcases List.mem_cons.1 hz with rfl | hz
          · exact hkid z (by simp)
          · rw [List.mem_singleton.1 hz]; exact hd
        · intro z hz
          rcases List.mem_cons.1 hz with rfl | hz
          · exact hk z (by simp [AskT.X])
          · rw [List.mem_singleton.1 hz]; exact pd
      · cases h
    · rw [if_neg hb7] at h
      cases h
  · rw [if_neg hk7] at h
    cases h
/-! ### No rule fits -/
def topF : Nat → AskT → AskT
  | 0, x => x
  | f + 1, x => match ruledA x with
    | none => x
    | some y => topF f y
def measN (x : AskT) : Nat := 2 * sizeA x + swapA x
def topA (x : AskT) : AskT := topF (measN x) x
def normA : AskT → AskT
  | .mk k s n X => topA (.mk k s n (X.attach.map fun x => normA x.1))
  decreasing_by have := List.sizeOf_lt_of_mem x.2; simp_all; omega
theorem normA_mk (k : Int) (s : List UInt8) (n : Int) (X : List AskT) : normA (.mk k s n X) = topA (.mk k s n (X.map normA)) := by
  rw [normA, attach_val X normA]
theorem topF_more : ∀ (f g : Nat) (x : AskT), okA x → measN x ≤ f → measN x ≤ g → topF f x = topF g x
  | 0, _, x, _, h, _ => by have := sizeA_pos x; unfold measN at h; omega
  | _ + 1, 0, x, _, _, h => by have := sizeA_pos x; unfold measN at h; omega
  | f + 1, g + 1, x, hx, h1, h2 => by
    unfold topF
    cases hr : ruledA x with
    | none => rfl
    | some y =>
      have hm := ruled_made (P := fun _ => True) (fun _ _ _ _ => trivial) hx (fun _ _ => trivial) hr
      have hl := hm.less
      exact topF_more f g y hm.ok (by unfold measN at *; omega) (by unfold measN at *; omega)
theorem topA_none {x : AskT} (h : ruledA x = none) : topA x = x := by
  unfold topA
  cases measN x with
  | zero => rfl
  | succ f => unfold topF; rw [h]
theorem topA_some {x y : AskT} (hx : okA x) (h : ruledA x = some y) : topA x = topA y := by
  have hm := ruled_made (P := fun _ => True) (fun _ _ _ _ => trivial) hx (fun _ _ => trivial) h
  have hl := hm.less
  have hp := sizeA_pos x
  obtain ⟨f, hf⟩ : ∃ f, measN x = f + 1 := ⟨measN x - 1, by unfold measN; omega⟩
  show topF (measN x) x = topF (measN y) y
  rw [hf, topF, h]
  exact topF_more f _ y hm.ok (by unfold measN at *; omega) (Nat.le_refl _)
/-- In it no rule fits, anywhere. -/
def flatN : AskT → Bool
  | .mk k s n X => (ruledA (.mk k s n X)).isNone && (X.attach.all fun x => flatN x.1)
  decreasing_by have := List.sizeOf_lt_of_mem x.2; simp_all; omega
theorem flatN_mk (k : Int) (s : List UInt8) (n : Int) (X : List AskT) : flatN (.mk k s n X) = true ↔ ruledA (.mk k s n X) = none ∧ ∀ y ∈ X, flatN y = true := by
  rw [flatN, Bool.and_eq_true, Option.isNone_iff_eq_none, List.all_eq_true]
  constructor
  · rintro ⟨h1, h2⟩
    exact ⟨h1, fun y hy => h2 ⟨y, hy⟩ (List.mem_attach _ _)⟩
  · rintro ⟨h1, h2⟩
    exact ⟨h1, fun y _ => h2 y.1 y.2⟩
theorem flat_down : Down (fun y => flatN y = true) := fun y hy z hz => by
  obtain ⟨k, s, n, X⟩ := y
  exact ((flatN_mk k s n X).1 hy).2 z hz
/-- The end of the rules: right, flat, no more than before. -/
theorem topA_end : ∀ (f : Nat) (x : AskT), measN x ≤ f → okA x → (∀ z ∈ x.X, flatN z = true) → okA (topA x) ∧ flatN (topA x) = true ∧ sizeA (topA x) ≤ sizeA x
  | 0, x, h, _, _ => by have := sizeA_pos x; unfold measN at h; omega
  | f + 1, x, h, hx, hk => by
    cases hr : ruledA x with
    | none =>
      rw [topA_none hr]
      refine ⟨hx, ?_, Nat.le_refl _⟩
      obtain ⟨k, s, n, X⟩ := x
      exact (flatN_mk k s n X).2 ⟨hr, hk⟩
    | some y =>
      have hm := ruled_made flat_down hx hk hr
      have hl := hm.less
      rw [topA_some hx hr]
      obtain ⟨h1, h2, h3⟩ := topA_end f y (by unfold measN at *; omega) hm.ok hm.kids
      exact ⟨h1, h2, Nat.le_trans h3 hm.size⟩
theorem sum_map_le {f g : AskT → Nat} : ∀ {X : List AskT}, (∀ y ∈ X, f y ≤ g y) → (X.map f).sum ≤ (X.map g).sum
  | [], _ => Nat.le_refl _
  | y :: X, h => by
    have h1 := h y (by simp)
    have h2 := sum_map_le (X := X) (fun z hz => h z (by simp [hz]))
    simp only [List.map_cons, List.sum_cons]
    omega
/-- The kids of a normal ask put in: still right, and no more. -/
theorem kids_ok {k : Int} {s : List UInt8} {n : Int} {X : List AskT} (hx : okA (.mk k s n X)) (h : ∀ y ∈ X, okA (normA y) ∧ flatN (normA y) = true ∧ sizeA (normA y) ≤ sizeA y) :
    okA (.mk k s n (X.map normA)) ∧ (∀ z ∈ X.map normA, flatN z = true) ∧ sizeA (.mk k s n (X.map normA)) ≤ sizeA (.mk k s n X) := by
  refine ⟨ok_mk (by rw [List.length_map]; exact ok_node hx) ?_, ?_, ?_⟩
  · intro z hz
    obtain ⟨y, hy, rfl⟩ := List.mem_map.1 hz
    exact (h y hy).1
  · intro z hz
    obtain ⟨y, hy, rfl⟩ := List.mem_map.1 hz
    exact (h y hy).2.1
  · rw [sizeA_mk, sizeA_mk, List.map_map]
    have := sum_map_le (f := sizeA ∘ normA) (g := sizeA) (X := X) (fun y hy => (h y hy).2.2)
    omega
theorem norm_ok : ∀ x : AskT, okA x → okA (normA x) ∧ flatN (normA x) = true ∧ sizeA (normA x) ≤ sizeA x := by
  refine askT_ind fun k s n X ih hx => ?_
  obtain ⟨h1, h2, h3⟩ := kids_ok hx (fun y hy => ih y hy (ok_kids hx y hy))
  rw [normA_mk]
  obtain ⟨g1, g2, g3⟩ := topA_end _ _ (Nat.le_refl _) h1 h2
  exact ⟨g1, g2, Nat.le_trans g3 h3⟩
theorem norm_flat : ∀ x : AskT, flatN x = true → normA x = x := by
  refine askT_ind fun k s n X ih hx => ?_
  obtain ⟨h1, h2⟩ := (flatN_mk k s n X).1 hx
  have e : X.map normA = X := by
    conv => rhs; rw [← List.map_id X]
    exact List.map_congr_left fun y hy => ih y hy (h2 y hy)
  rw [normA_mk, e, topA_none h1]
/-- An ask whose parts are flat: its normal form is the end of its rules. -/
theorem norm_top {x : AskT} (h : ∀ z ∈ x.X, flatN z = true) : normA x = topA x := by
  obtain ⟨k, s, n, X⟩ := x
  have e : X.map normA = X := by
    conv => rhs; rw [← List.map_id X]
    exact List.map_congr_left fun y hy => norm_flat y (h y hy)
  rw [normA_mk, e]
def kidsN : AskT → AskT | .mk k s n X => .mk k s n (X.map normA)
theorem norm_kids (x : AskT) : normA x = topA (kidsN x) := by obtain ⟨k, s, n, X⟩ := x; exact normA_mk k s n X
/-- What the reference goes down by. -/
def measR (x : AskT) : Nat := 2 * sizeA x + swapA (kidsN x)
theorem measR_kid {k : Int} {s : List UInt8} {n : Int} {X : List AskT} {y : AskT} (h : y ∈ X) : measR y < measR (.mk k s n X) := by
  have h1 := swapA_le (kidsN y)
  have h2 : sizeA y ≤ (X.map sizeA).sum := by
    clear h1
    induction X with
    | nil => cases h
    | cons z X ih =>
      rw [List.map_cons, List.sum_cons]
      rcases List.mem_cons.1 h with rfl | h
      · omega
      · have := ih h; omega
  unfold measR
  rw [sizeA_mk]
  omega
theorem kidsN_flat {x : AskT} (h : ∀ z ∈ x.X, flatN z = true) : kidsN x = x := by
  obtain ⟨k, s, n, X⟩ := x
  have e : X.map normA = X := by
    conv => rhs; rw [← List.map_id X]
    exact List.map_congr_left fun y hy => norm_flat y (h y hy)
  show AskT.mk k s n (X.map normA) = _
  rw [e]
theorem measR_rule {x y : AskT} (hx : okA x) (h : ruledA (kidsN x) = some y) : measR y < measR x ∧ okA y ∧ normA y = normA x ∧ sizeA y ≤ sizeA x := by
  obtain ⟨k, s, n, X⟩ := x
  obtain ⟨h1, h2, h3⟩ := kids_ok hx (fun y hy => norm_ok y (ok_kids hx y hy))
  have hm := ruled_made flat_down h1 h2 h
  have hl := hm.less
  have e : kidsN y = y := kidsN_flat hm.kids
  refine ⟨?_, hm.ok, ?_, Nat.le_trans hm.size h3⟩
  · unfold measR
    rw [e]
    have h5 : sizeA (AskT.mk k s n (X.map normA)) ≤ sizeA (AskT.mk k s n X) := h3
    show _ < 2 * sizeA (AskT.mk k s n X) + swapA (AskT.mk k s n (X.map normA))
    omega
  · rw [norm_top hm.kids, normA_mk]
    exact (topA_some h1 h).symm
end Go.Proofs.YtcodncddaemhlaaDoor
