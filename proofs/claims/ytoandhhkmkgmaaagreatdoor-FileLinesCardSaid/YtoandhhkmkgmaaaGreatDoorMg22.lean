/- Lines of a text that includes others, in plain Lean: as the program reads them, as the reference does. -/
import Derived.Test.YtoandhhkmkgmaaaGreatDoorMg9
import Derived.Test.YtoandhhkmkgmaaaGreatDoorMg17
import Derived.Test.YtoandhhkmkgmaaaGreatDoorMg21
namespace Go.Proofs.YtoandhhkmkgmaaaGreatDoor
open Go.RowKit

/-! ### Lines and words -/
theorem takeA_len : ∀ (s : List UInt8) (p : Option UInt8), (takeA p s).length ≤ s.length
  | [], p => by rw [takeA]; exact Nat.le_refl _
  | c :: t, p => by
    rw [takeA]
    split
    · simp
    · have := takeA_len t (some c); simp; omega
theorem trimRL_len (s : List UInt8) : (trimRL s).length ≤ s.length := by
  unfold trimRL
  rw [List.length_reverse]
  have := (List.dropWhile_sublist blankB (l := s.reverse)).length_le
  rw [List.length_reverse] at this
  exact this
theorem asideL_len (s : List UInt8) : (asideL s).length ≤ s.length := by
  unfold asideL
  have h1 := trimRL_len (unescL (takeA none s))
  have h2 := unescL_len _ (takeA none s) (Nat.le_refl _)
  have h3 := takeA_len s none
  omega
theorem trimR_last {s : List UInt8} (h : trimRL s ≠ []) : ∃ u c, trimRL s = u ++ [c] ∧ blankB c = false := by
  unfold trimRL at h ⊢
  cases hd : s.reverse.dropWhile blankB with
  | nil => rw [hd] at h; exact absurd rfl h
  | cons c t =>
    refine ⟨t.reverse, c, by rw [List.reverse_cons], ?_⟩
    have := List.head?_dropWhile_not blankB s.reverse
    rw [hd] at this
    simpa using this
theorem words_ne {u : List UInt8} {c : UInt8} (h : blankB c = false) : wordsL (u ++ [c]) ≠ [] := by
  unfold wordsL
  rw [wFold_snoc]
  unfold wStep wEnd
  rw [h]
  simp
theorem contL_tot : ∀ (ls : List (List UInt8)) (t : List UInt8), (contL t ls).1.length + totL (contL t ls).2 ≤ t.length + totL ls
  | [], t => by
    rw [contL]
    have : totL [] = 0 := rfl
    split <;> simp [this]
  | n :: ls, t => by
    rw [contL]
    have e : totL (n :: ls) = n.length + 1 + totL ls := by simp [totL]
    split
    · have ih := contL_tot ls (t.dropLast ++ [32] ++ trimLL n)
      have h1 : (trimLL n).length ≤ n.length := by
        unfold trimLL
        exact (List.dropWhile_sublist blankB (l := n)).length_le
      simp only [List.length_append, List.length_dropLast, List.length_singleton] at ih
      rename_i he
      have ht : t ≠ [] := by intro h; subst h; simp [endsB] at he
      have : 0 < t.length := List.length_pos_iff.2 ht
      omega
    · exact Nat.le_refl _
theorem joinL_each : ∀ (n k : Nat) (ls : List (List UInt8)), ls.length ≤ n → ∀ x ∈ joinL k ls, (wordsL x.2 ≠ []) ∧ x.2.length ≤ totL ls := by
  intro n
  induction n with
  | zero =>
    intro k ls hl x hx
    rw [List.length_eq_zero_iff.1 (by omega : ls.length = 0), joinL_nil] at hx
    cases hx
  | succ n ih =>
    intro k ls hl x hx
    cases ls with
    | nil => rw [joinL_nil] at hx; cases hx
    | cons l ls =>
      rw [joinL_cons] at hx
      have hc := contL_tot ls l
      have hcl := contL_len ls l
      have e : totL (l :: ls) = l.length + 1 + totL ls := by simp [totL]
      rcases List.mem_append.1 hx with hx | hx
      · split at hx
        · cases hx
        · rename_i hne
          rw [List.mem_singleton.1 hx]
          refine ⟨?_, ?_⟩
          · obtain ⟨u, c, h1, h2⟩ := trimR_last (s := unescL (takeA none (contL l ls).1)) hne
            show wordsL (asideL _) ≠ []
            unfold asideL
            rw [h1]
            exact words_ne h2
          · have := asideL_len (contL l ls).1
            show (asideL _).length ≤ _
            omega
      · have := ih _ _ (by simp at hl; omega) x hx
        exact ⟨this.1, by omega⟩
theorem joinL_lenF : ∀ (n : Nat) (ls : List (List UInt8)) (k : Nat), ls.length ≤ n → (joinL k ls).length ≤ ls.length := by
  intro n
  induction n with
  | zero =>
    intro ls k h
    obtain rfl : ls = [] := List.length_eq_zero_iff.1 (by omega)
    rw [joinL_nil]; exact Nat.le_refl _
  | succ n ih =>
    intro ls k h
    cases ls with
    | nil => rw [joinL_nil]; exact Nat.le_refl _
    | cons l ls =>
      simp only [List.length_cons] at h
      have h1 := contL_len ls l
      have h2 := ih (contL l ls).2 (k + 1 + (ls.length - (contL l ls).2.length)) (by omega)
      rw [joinL_cons, List.length_append, List.length_cons]
      have h3 : (if asideL (contL l ls).1 = [] then [] else [(k + 1, asideL (contL l ls).1)] : List (Nat × List UInt8)).length ≤ 1 := by split <;> simp
      omega
theorem joinL_count (s : List UInt8) : (joinL 0 (linesN s)).length ≤ s.length + 1 := by
  have h1 := joinL_lenF _ (linesN s) 0 (Nat.le_refl _)
  have h2 := totL_len (linesN s)
  have h3 := totL_lines _ s (Nat.le_refl _)
  omega
def linesT (s : List UInt8) : List (List UInt8) := (joinL 0 (linesN s)).map (·.2)
theorem linesT_each (s : List UInt8) : ∀ x ∈ linesT s, wordsL x ≠ [] ∧ x.length ≤ s.length + 1 := fun x hx => by
  obtain ⟨y, hy, rfl⟩ := List.mem_map.1 hx
  have h := joinL_each _ 0 (linesN s) (Nat.le_refl _) y hy
  have := totL_lines _ s (Nat.le_refl _)
  exact ⟨h.1, by omega⟩

/-! ### Reading -/
abbrev TxtT := List UInt8 × List UInt8
def txtAt (t : List TxtT) (n : List UInt8) : Option (List UInt8) := (t.find? fun x => decide (x.1 = n)).map (·.2)
def inclW : List UInt8 := [105, 110, 99, 108, 117, 100, 101]
abbrev ResT := Nat × Nat × List (List UInt8)
abbrev RecT := List (List UInt8) → List UInt8 → Nat → List (List UInt8) → ResT
/-- The word behind the first one. -/
def w1L (x : List UInt8) : List UInt8 := (wordsL x).getD 1 []
/-- Reading the lines that are left: error, how many lines, what came out. -/
def stepsA (t : List TxtT) (rec : RecT) (op : List (List UInt8)) : List (List UInt8) → Nat → List (List UInt8) → ResT
  | [], m, O => (0, m, O)
  | x :: ls, m, O =>
    if 200 < m + 1 then (2, 0, [])
    else if (wordsL x).headD [] ≠ inclW then stepsA t rec op ls (m + 1) (O ++ [x])
    else if (wordsL x).length ≠ 2 then (3, 0, [])
    else if txtAt t (w1L x) = none then (5, 0, [])
    else if w1L x ∈ op then (8, 0, [])
    else if (rec (op ++ [w1L x]) ((txtAt t (w1L x)).getD []) (m + 1) O).1 ≠ 0 then ((rec (op ++ [w1L x]) ((txtAt t (w1L x)).getD []) (m + 1) O).1, 0, [])
    else stepsA t rec op ls (rec (op ++ [w1L x]) ((txtAt t (w1L x)).getD []) (m + 1) O).2.1 (rec (op ++ [w1L x]) ((txtAt t (w1L x)).getD []) (m + 1) O).2.2
noncomputable def readA (t : List TxtT) : Nat → RecT
  | 0 => fun _ _ _ _ => (1, 0, [])
  | d + 1 => fun op s m O => if lnE s ≠ 0 then (lnE s, 0, []) else stepsA t (readA t d) op (linesT s) m O
/-- What comes out behind what there was. -/
def behind (O : List (List UInt8)) (r : ResT) : ResT := if r.1 = 0 then (0, r.2.1, O ++ r.2.2) else (r.1, 0, [])
def AppR (rec : RecT) : Prop := ∀ op s m O, rec op s m O = behind O (rec op s m [])
theorem behind_nil (r : ResT) (h : r.1 ≠ 0 → r = (r.1, 0, [])) : behind [] r = r := by
  unfold behind
  obtain ⟨a, b, c⟩ := r
  by_cases h0 : a = 0
  · subst h0; simp
  · rw [if_neg h0]; exact (h h0).symm
theorem behind_app (A B : List (List UInt8)) (r : ResT) : behind (A ++ B) r = behind A (behind B r) := by
  unfold behind
  by_cases h : r.1 = 0
  · rw [if_pos h, if_pos h]; simp
  · rw [if_neg h, if_neg h]
    simp [h]
theorem behind_err {O : List (List UInt8)} {r : ResT} : (behind O r).1 = r.1 := by
  unfold behind
  split <;> simp_all
theorem stepsA_app {t : List TxtT} {rec : RecT} (h : AppR rec) (op : List (List UInt8)) : ∀ (ls : List (List UInt8)) (m : Nat) (O : List (List UInt8)), stepsA t rec op ls m O = behind O (stepsA t rec op ls m [])
  | [], m, O => by simp [stepsA, behind]
  | x :: ls, m, O => by
    have hO := h (op ++ [w1L x]) ((txtAt t (w1L x)).getD []) (m + 1) O
    unfold stepsA
    split
    · rfl
    · split
      · rw [stepsA_app h op ls (m + 1) (O ++ [x]), stepsA_app h op ls (m + 1) ([] ++ [x]), behind_app, List.nil_append]
      · split
        · rfl
        · split
          · rfl
          · split
            · rfl
            · rw [hO, behind_err]
              split
              · rename_i hne
                unfold behind
                rw [if_neg hne]
              · rename_i h0
                have h0 : (rec (op ++ [w1L x]) ((txtAt t (w1L x)).getD []) (m + 1) []).1 = 0 := Decidable.byContradiction h0
                rw [show (behind O (rec (op ++ [w1L x]) ((txtAt t (w1L x)).getD []) (m + 1) [])).2.1 = (rec (op ++ [w1L x]) ((txtAt t (w1L x)).getD []) (m + 1) []).2.1 by unfold behind; rw [if_pos h0],
                  show (behind O (rec (op ++ [w1L x]) ((txtAt t (w1L x)).getD []) (m + 1) [])).2.2 = O ++ (rec (op ++ [w1L x]) ((txtAt t (w1L x)).getD []) (m + 1) []).2.2 by unfold behind; rw [if_pos h0],
                  stepsA_app h op ls _ (O ++ _), behind_app, ← stepsA_app h op ls]
theorem readA_app (t : List TxtT) : ∀ d, AppR (readA t d)
  | 0 => fun op s m O => by simp [readA, behind]
  | d + 1 => fun op s m O => by
    unfold readA
    split
    · rename_i h
      unfold behind
      rw [if_neg h]
    · exact stepsA_app (readA_app t d) op _ m O
theorem stepsA_many {t : List TxtT} {rec : RecT} {op : List (List UInt8)} (h : ∀ op s m O, m ≤ 200 → O.length ≤ m → (rec op s m O).1 = 0 → (rec op s m O).2.1 ≤ 200 ∧ (rec op s m O).2.2.length ≤ (rec op s m O).2.1) : ∀ (ls : List (List UInt8)) (m : Nat) (O : List (List UInt8)), m ≤ 200 → O.length ≤ m → (stepsA t rec op ls m O).1 = 0 → (stepsA t rec op ls m O).2.1 ≤ 200 ∧ (stepsA t rec op ls m O).2.2.length ≤ (stepsA t rec op ls m O).2.1
  | [], m, O, hm, hO, _ => ⟨hm, hO⟩
  | x :: ls, m, O, hm, hO, h0 => by
    unfold stepsA at h0 ⊢
    split at h0
    · cases h0
    · rename_i h1
      rw [if_neg h1]
      split at h0
      · rename_i h2
        rw [if_pos h2]
        exact stepsA_many h ls (m + 1) (O ++ [x]) (by omega) (by simp; omega) h0
      · rename_i h2
        rw [if_neg h2]
        split at h0
        · cases h0
        · rename_i h3
          rw [if_neg h3]
          split at h0
          · cases h0
          · rename_i h4
            rw [if_neg h4]
            split at h0
            · cases h0
            · rename_i h5
              rw [if_neg h5]
              split at h0
              · rename_i h6; exact absurd h0 h6
              · rename_i h6
                rw [if_neg h6]
                obtain ⟨g1, g2⟩ := h (op ++ [w1L x]) ((txtAt t (w1L x)).getD []) (m + 1) O (by omega) (by omega) (Decidable.byContradiction h6)
                exact stepsA_many h ls _ _ g1 g2 h0
theorem readA_many (t : List TxtT) : ∀ d op s m O, m ≤ 200 → O.length ≤ m → (readA t d op s m O).1 = 0 → (readA t d op s m O).2.1 ≤ 200 ∧ (readA t d op s m O).2.2.length ≤ (readA t d op s m O).2.1
  | 0, op, s, m, O, hm, hO, h0 => by simp [readA] at h0
  | d + 1, op, s, m, O, hm, hO, h0 => by
    unfold readA at h0 ⊢
    split at h0
    · rename_i h; exact absurd h0 h
    · rename_i h
      rw [if_neg h]
      exact stepsA_many (readA_many t d) _ m O hm hO h0
theorem txtAt_mem {t : List TxtT} {n s : List UInt8} (h : txtAt t n = some s) : (n, s) ∈ t := by
  unfold txtAt at h
  rw [Option.map_eq_some_iff] at h
  obtain ⟨x, hx, rfl⟩ := h
  have h1 := List.find?_some hx
  simp at h1
  have h2 := List.mem_of_find?_eq_some hx
  rw [← h1]
  exact h2
theorem txtAt_none {t : List TxtT} {n : List UInt8} (h : txtAt t n = none) : n ∉ t.map (·.1) := fun hm => by
  obtain ⟨x, hx, rfl⟩ := List.mem_map.1 hm
  unfold txtAt at h
  rw [Option.map_eq_none_iff, List.find?_eq_none] at h
  exact absurd (h x hx) (by simp)
theorem txtAt_at {t : List TxtT} (hd : (t.map (·.1)).Nodup) {j : Nat} {n s : List UInt8} (h : t[j]? = some (n, s)) : txtAt t n = some s := by
  cases hl : txtAt t n with
  | none => exact absurd (List.mem_map.2 ⟨(n, s), List.mem_of_getElem? h, rfl⟩) (txtAt_none hl)
  | some s' =>
    have hm := txtAt_mem hl
    obtain ⟨i, hi⟩ := List.mem_iff_getElem?.1 hm
    have e1 : (t.map (·.1))[i]? = some n := by rw [List.getElem?_map, hi]; rfl
    have e2 : (t.map (·.1))[j]? = some n := by rw [List.getElem?_map, h]; rfl
    have hij : i = j := (List.getElem?_inj (List.getElem?_eq_some_iff.1 e1).1 hd).1 (e1.trans e2.symm)
    subst hij
    rw [h] at hi
    injection hi with hi
    injection hi with _ hi
    rw [hi]
/-- The fault of the texts' names. -/
def txtE : List TxtT → Nat → List TxtT → Nat
  | _, _, [] => 0
  | seen, k, x :: t => if goodName x.1 = false then 3 else if x.1 ∈ seen.map (·.1) then 6 else txtE (seen ++ [x]) (k + 1) t
/-- file.Lines: error, lines. -/
noncomputable def linesF (s : List UInt8) (t : List TxtT) : Nat × List (List UInt8) :=
  if 20 < t.length then (2, []) else if txtE [] 0 t ≠ 0 then (txtE [] 0 t, []) else if (readA t (t.length + 1) [] s 0 []).1 ≠ 0 then ((readA t (t.length + 1) [] s 0 []).1, []) else (0, (readA t (t.length + 1) [] s 0 []).2.2)
end Go.Proofs.YtoandhhkmkgmaaaGreatDoor
