/- Builds, plain: what a build makes and when; stamps: what is wrong with them. -/
import Derived.Test.YtcjhkfhogcdobaaDoorStalePlain
import Derived.Test.YtcjhkfhogcdobaaDoorSpanPlain
namespace Go.Proofs.YtcjhkfhogcdobaaDoor

/-! ### A build -/
abbrev MadeT := List Nat × List Int
def runStep (s : Nat) (now : Int) (st : MadeT) (x : Nat) : MadeT := if s.testBit x then (st.1 ++ [x], st.2.set x (now + st.1.length)) else st
def runL (s : Nat) (now : Int) (T : List Int) (L : List Nat) : MadeT := L.foldl (runStep s now) ([], T)
section
variable {s : Nat} {now : Int} {T : List Int}
theorem runL_nil : runL s now T [] = ([], T) := rfl
theorem runL_snoc (L : List Nat) (x : Nat) : runL s now T (L ++ [x]) = runStep s now (runL s now T L) x := by unfold runL; rw [List.foldl_append]; rfl
theorem runL_take {L : List Nat} {q x : Nat} (h : L[q]? = some x) : runL s now T (L.take (q + 1)) = runStep s now (runL s now T (L.take q)) x := by
  obtain ⟨hq, rfl⟩ := List.getElem?_eq_some_iff.1 h
  rw [List.take_succ_eq_append_getElem hq, runL_snoc]
theorem runStep_in {st : MadeT} {x : Nat} (h : s.testBit x = true) : runStep s now st x = (st.1 ++ [x], st.2.set x (now + st.1.length)) := by unfold runStep; rw [if_pos h]
theorem runStep_out {st : MadeT} {x : Nat} (h : s.testBit x = false) : runStep s now st x = st := by unfold runStep; rw [if_neg (by rw [h]; decide)]
theorem run_lens (L : List Nat) : ∀ st : MadeT, (L.foldl (runStep s now) st).2.length = st.2.length ∧ (L.foldl (runStep s now) st).1.length ≤ st.1.length + L.length := by
  induction L with
  | nil => intro st; exact ⟨rfl, Nat.le_refl _⟩
  | cons x L ih =>
    intro st
    have h := ih (runStep s now st x)
    have h1 : (runStep s now st x).2.length = st.2.length ∧ (runStep s now st x).1.length ≤ st.1.length + 1 := by
      unfold runStep
      split
      · simp
      · exact ⟨rfl, by omega⟩
    rw [List.foldl_cons, List.length_cons]
    omega
theorem runL_len (L : List Nat) : (runL s now T L).2.length = T.length := (run_lens L ([], T)).1
theorem runL_row (L : List Nat) : (runL s now T L).1.length ≤ L.length := by have := (run_lens (s := s) (now := now) L ([], T)).2; simpa [runL] using this
end

/-! ### Stamps -/
abbrev StampT := List UInt8 × Int × UInt64
/-- What is wrong with one stamp. -/
def stOne (x : StampT) : Int := if goodName x.1 = false then 3 else if x.2.1 < 0 ∨ 1099511627776 < x.2.1 then 4 else if rightT x.2.2 = false then 1 else 0
/-- What is wrong with the first stamp with which something is. -/
def stFirst : List StampT → Int
  | [] => 0
  | x :: l => if stOne x = 0 then stFirst l else stOne x
def leAt (a b : StampT) : Bool := decide (a.2.1 ≤ b.2.1)
/-- What is wrong with stamps. -/
def stErr (L : List StampT) : Int := if 200 < L.length then 2 else if stFirst L = 0 then (if risesB leAt L then 0 else 3) else stFirst L
theorem stFirst_bad : ∀ {L : List StampT} {q : Nat} {x : StampT}, (∀ (j : Nat) (y : StampT), j < q → L[j]? = some y → stOne y = 0) → L[q]? = some x → stOne x ≠ 0 → stFirst L = stOne x
  | [], q, x, _, hx, _ => by simp at hx
  | y :: l, 0, x, _, hx, hn => by
    simp at hx
    subst hx
    unfold stFirst
    rw [if_neg hn]
  | y :: l, q + 1, x, h, hx, hn => by
    unfold stFirst
    rw [if_pos (h 0 y (by omega) rfl)]
    exact stFirst_bad (fun j z hj hz => h (j + 1) z (by omega) hz) hx hn
theorem stFirst_good : ∀ {L : List StampT}, (∀ (j : Nat) (y : StampT), L[j]? = some y → stOne y = 0) → stFirst L = 0
  | [], _ => rfl
  | y :: l, h => by
    unfold stFirst
    rw [if_pos (h 0 y rfl)]
    exact stFirst_good fun j z hz => h (j + 1) z hz
theorem stOne_ways (x : StampT) : (goodName x.1 = false ∧ stOne x = 3) ∨ (goodName x.1 = true ∧ x.2.1 < 0 ∧ stOne x = 4) ∨ (goodName x.1 = true ∧ 0 ≤ x.2.1 ∧ 1099511627776 < x.2.1 ∧ stOne x = 4) ∨ (goodName x.1 = true ∧ 0 ≤ x.2.1 ∧ x.2.1 ≤ 1099511627776 ∧ rightT x.2.2 = false ∧ stOne x = 1) ∨ (goodName x.1 = true ∧ 0 ≤ x.2.1 ∧ x.2.1 ≤ 1099511627776 ∧ rightT x.2.2 = true ∧ stOne x = 0) := by
  unfold stOne
  cases h1 : goodName x.1 with
  | false => exact .inl ⟨rfl, by rw [if_pos rfl]⟩
  | true =>
    rw [if_neg (by decide)]
    by_cases h2 : x.2.1 < 0
    · exact .inr (.inl ⟨rfl, h2, by rw [if_pos (.inl h2)]⟩)
    · by_cases h3 : 1099511627776 < x.2.1
      · exact .inr (.inr (.inl ⟨rfl, by omega, h3, by rw [if_pos (.inr h3)]⟩))
      · rw [if_neg (by omega)]
        cases h4 : rightT x.2.2 with
        | false => exact .inr (.inr (.inr (.inl ⟨rfl, by omega, by omega, rfl, by rw [if_pos rfl]⟩)))
        | true => exact .inr (.inr (.inr (.inr ⟨rfl, by omega, by omega, rfl, by rw [if_neg (by decide)]⟩)))

/-! ### The log of a build -/
def stampAt (N : List (List UInt8)) (A : List Int) (F : List UInt64) (i : Int) : StampT := (N.getD i.toNat [], A.getD i.toNat 0, F.getD i.toNat 0)
def inR (n : Nat) (i : Int) : Bool := decide (0 ≤ i) && decide (i < (n : Int))
def logL (N : List (List UInt8)) (A : List Int) (F : List UInt64) (R : List Int) : List StampT := R.map (stampAt N A F)
def logErr (N : List (List UInt8)) (A : List Int) (F : List UInt64) (R : List Int) (e : Int) : Int :=
  if e ≠ 0 then e else if F.length ≠ N.length ∨ A.length ≠ N.length then 1 else if R.all (inR N.length) = false then 4 else stErr (logL N A F R)
def logV (N : List (List UInt8)) (A : List Int) (F : List UInt64) (R : List Int) (e : Int) : List StampT := if logErr N A F R e = 0 then logL N A F R else []
end Go.Proofs.YtcjhkfhogcdobaaDoor
