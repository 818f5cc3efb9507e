/- Drawings of graphs as texts, plain: what a drawing is, what each line of one tells. No program in sight, no condition. -/
import Derived.Test.YtoandhhkmkgmaaaGreatDoorGraphPlain
import Derived.Test.YtoandhhkmkgmaaaGreatDoorTextPlain
import Derived.Test.YtoandhhkmkgmaaaGreatDoorLines
import Derived.Lib.IndexMore
import Derived.Test.YtoandhhkmkgmaaaGreatDoorName1
import Derived.Lib.Strings
namespace Go.Proofs.YtoandhhkmkgmaaaGreatDoor

theorem linesG_cons (x : UInt8) (r : List UInt8) : linesL (x :: r) = if x = 10 then [10] :: linesL r else match linesL r with
    | [] => [[x]]
    | p :: q => (x :: p) :: q := by
  rw [linesL]
  rfl
theorem linesL_app : ∀ {x : List UInt8} (t : List UInt8), (10 : UInt8) ∉ x → linesL (x ++ 10 :: t) = (x ++ [10]) :: linesL t
  | [], t, _ => by rw [List.nil_append, linesG_cons, if_pos rfl]; rfl
  | y :: x, t, h => by
    rw [List.mem_cons, not_or] at h
    rw [List.cons_append, linesG_cons, if_neg (fun e => h.1 e.symm), linesL_app t h.2]
    rfl
def nlT (L : List (List UInt8)) : List UInt8 := L.flatMap fun x => x ++ [10]
theorem nlT_cons (x : List UInt8) (L : List (List UInt8)) : nlT (x :: L) = x ++ 10 :: nlT L := by
  unfold nlT
  rw [List.flatMap_cons]
  simp
theorem nlT_app (L M : List (List UInt8)) : nlT (L ++ M) = nlT L ++ nlT M := by unfold nlT; rw [List.flatMap_append]
theorem lines_nlT : ∀ {L : List (List UInt8)}, (∀ x ∈ L, (10 : UInt8) ∉ x) → linesL (nlT L) = L.map (· ++ [10])
  | [], _ => rfl
  | x :: L, h => by
    rw [nlT_cons, linesL_app _ (h x (by simp)), lines_nlT fun y hy => h y (List.mem_cons_of_mem _ hy)]
    rfl
theorem split_nlT : ∀ {L : List (List UInt8)}, (∀ x ∈ L, (10 : UInt8) ∉ x) → splitC 10 (nlT L) = L ++ [[]]
  | [], _ => rfl
  | x :: L, h => by
    rw [nlT_cons, splitC_app _ (h x (by simp)), split_nlT fun y hy => h y (List.mem_cons_of_mem _ hy)]
    rfl

abbrev GrT := List (List UInt8) × List EdgeT × Nat × Nat
def dHead : List UInt8 := [100, 105, 103, 114, 97, 112, 104, 32, 123, 10]
def dTail : List UInt8 := [125, 10]
def tagT (md ph : Bool) : List UInt8 := (if md then [109, 97, 100, 101] else []) ++ (if md && ph then [44] else []) ++ (if ph then [112, 104, 111, 110, 121] else [])
def preT : List UInt8 := [32, 32, 34]
def endT (md ph : Bool) : List UInt8 := [34, 32, 91] ++ tagT md ph ++ [93, 59]
def midT : List UInt8 := [34, 32, 45, 62, 32, 34]
def clsT : List UInt8 := [34, 59]
def nodeL (s : List UInt8) (md ph : Bool) : List UInt8 := preT ++ s ++ endT md ph
def linkL (a b : List UInt8) : List UInt8 := preT ++ a ++ midT ++ b ++ clsT
def nmAt (N : List (List UInt8)) (i : Nat) : List UInt8 := N.getD i []
def nodesG (N : List (List UInt8)) (p m : Nat) : List (List UInt8) := (List.range N.length).map fun i => nodeL (nmAt N i) (m.testBit i) (p.testBit i)
def linksG (N : List (List UInt8)) (E : List EdgeT) : List (List UInt8) := E.map fun e => linkL (nmAt N e.1.toNat) (nmAt N e.2.toNat)
def linesG (N : List (List UInt8)) (E : List EdgeT) (p m : Nat) : List (List UInt8) := nodesG N p m ++ linksG N E
def drawT (N : List (List UInt8)) (E : List EdgeT) (p m : Nat) : List UInt8 := dHead ++ nlT (linesG N E p m) ++ dTail
/-- What the first j lines of a drawing tell. -/
def upG (N : List (List UInt8)) (E : List EdgeT) (p m j : Nat) : GrT := (N.take j, E.take (j - N.length), p % 2 ^ j, m % 2 ^ j)
/-- A text within a text. -/
def hasT (s t : List UInt8) : Bool := Lib.contains s t

theorem good_sgn {s : List UInt8} (h : goodName s = true) {c : UInt8} (hc : c ∈ s) : sgn c = true := by
  unfold goodName at h
  rw [Bool.and_eq_true, List.all_eq_true] at h
  exact h.1 c hc
theorem good_no {s : List UInt8} (h : goodName s = true) {c : UInt8} (hc : sgn c = false) : c ∉ s := fun hm => by
  rw [good_sgn h hm] at hc
  cases hc
theorem sgn_nl : sgn 10 = false := by decide
theorem sgn_q : sgn 34 = false := by decide
theorem nmAt_good {N : List (List UInt8)} (h : N.all goodName = true) {i : Nat} (hi : i < N.length) : goodName (nmAt N i) = true := by
  unfold nmAt
  rw [List.getD_eq_getElem?_getD, List.getElem?_eq_getElem hi]
  exact List.all_eq_true.1 h _ (List.getElem_mem hi)
theorem tag_free (md ph : Bool) : (10 : UInt8) ∉ endT md ph ∧ (34 : UInt8) ∉ [32, 91] ++ tagT md ph ++ [93, 59, 10] := by cases md <;> cases ph <;> decide
theorem node_nl {s : List UInt8} (h : goodName s = true) (md ph : Bool) : (10 : UInt8) ∉ nodeL s md ph := by
  unfold nodeL
  rw [List.mem_append, List.mem_append, not_or, not_or]
  exact ⟨⟨by decide, good_no h sgn_nl⟩, (tag_free md ph).1⟩
theorem link_nl {a b : List UInt8} (ha : goodName a = true) (hb : goodName b = true) : (10 : UInt8) ∉ linkL a b := by
  unfold linkL
  simp only [List.mem_append, not_or]
  exact ⟨⟨⟨⟨by decide, good_no ha sgn_nl⟩, by decide⟩, good_no hb sgn_nl⟩, by decide⟩
theorem edge_at {n : Nat} {E : List EdgeT} (h : E.any (edgeOut n) = false) {e : EdgeT} (he : e ∈ E) : e.1.toNat < n ∧ e.2.toNat < n ∧ 0 ≤ e.1 ∧ 0 ≤ e.2 := by
  obtain ⟨h1, h2, h3, h4⟩ := edgeG_in h he
  omega
theorem lines_free {N : List (List UInt8)} {E : List EdgeT} (p m : Nat) (hN : N.all goodName = true) (hE : E.any (edgeOut N.length) = false) : ∀ x ∈ linesG N E p m, (10 : UInt8) ∉ x := fun x hx => by
  unfold linesG nodesG linksG at hx
  rw [List.mem_append, List.mem_map, List.mem_map] at hx
  rcases hx with ⟨i, hi, rfl⟩ | ⟨e, he, rfl⟩
  · exact node_nl (nmAt_good hN (List.mem_range.1 hi)) _ _
  · obtain ⟨h1, h2, _⟩ := edge_at hE he
    exact link_nl (nmAt_good hN h1) (nmAt_good hN h2)
theorem linesG_len (N : List (List UInt8)) (E : List EdgeT) (p m : Nat) : (linesG N E p m).length = N.length + E.length := by
  unfold linesG nodesG linksG
  simp
theorem linesG_node {N : List (List UInt8)} (E : List EdgeT) (p m : Nat) {j : Nat} (hj : j < N.length) : (linesG N E p m)[j]? = some (nodeL (nmAt N j) (m.testBit j) (p.testBit j)) := by
  unfold linesG nodesG
  rw [List.getElem?_append_left (by simpa using hj), List.getElem?_map, List.getElem?_range hj]
  rfl
theorem linesG_link {N : List (List UInt8)} {E : List EdgeT} (p m : Nat) {j : Nat} {e : EdgeT} (hj : N.length ≤ j) (he : E[j - N.length]? = some e) : (linesG N E p m)[j]? = some (linkL (nmAt N e.1.toNat) (nmAt N e.2.toNat)) := by
  unfold linesG nodesG linksG
  rw [List.getElem?_append_right (by simpa using hj), List.getElem?_map]
  simp [he]
theorem split_node {s : List UInt8} (h : (34 : UInt8) ∉ s) (md ph : Bool) : splitC 34 (nodeL s md ph ++ [10]) = [[32, 32], s, [32, 91] ++ tagT md ph ++ [93, 59, 10]] := by
  have e : nodeL s md ph ++ [10] = [32, 32] ++ 34 :: (s ++ 34 :: ([32, 91] ++ tagT md ph ++ [93, 59, 10])) := by
    unfold nodeL preT endT
    simp
  rw [e, splitC_app _ (by decide), splitC_app _ h, splitC_free (tag_free md ph).2]
theorem split_link {a b : List UInt8} (ha : (34 : UInt8) ∉ a) (hb : (34 : UInt8) ∉ b) : splitC 34 (linkL a b ++ [10]) = [[32, 32], a, [32, 45, 62, 32], b, [59, 10]] := by
  have e : linkL a b ++ [10] = [32, 32] ++ 34 :: (a ++ 34 :: ([32, 45, 62, 32] ++ 34 :: (b ++ 34 :: [59, 10]))) := by
    unfold linkL preT midT clsT
    simp
  rw [e, splitC_app _ (by decide), splitC_app _ ha, splitC_app _ (by decide), splitC_app _ hb, splitC_free (by decide)]
theorem tag_has (md ph : Bool) : hasT ([32, 91] ++ tagT md ph ++ [93, 59, 10]) [109, 97, 100, 101] = md ∧ hasT ([32, 91] ++ tagT md ph ++ [93, 59, 10]) [112, 104, 111, 110, 121] = ph := by cases md <;> cases ph <;> decide

/-- What a line of a drawing does to the graph (the program's way). -/
def LineRel (G : GrT) (s : List UInt8) (ok : Bool) (G' : GrT) : Prop :=
  match splitC 34 s with
  | [_, b, c] => if G.1.length = 64 then ok = false ∧ G' = G else ok = true ∧ G' = (G.1 ++ [b], G.2.1, (if hasT c [112, 104, 111, 110, 121] then addN G.2.2.1 G.1.length else G.2.2.1), if hasT c [109, 97, 100, 101] then addN G.2.2.2 G.1.length else G.2.2.2)
  | [_, b, _, d, _] => ∃ i j fa fb, ok = (fa && fb) ∧ G' = (G.1, G.2.1 ++ [(i, j)], G.2.2.1, G.2.2.2) ∧ (Up G.1 → i = placeMax G.1 b ∧ fa = hasS G.1 b ∧ j = placeMax G.1 d ∧ fb = hasS G.1 d)
  | _ => ok = false ∧ G' = G
theorem mod_bit (p j : Nat) : p % 2 ^ (j + 1) = if p.testBit j then addN (p % 2 ^ j) j else p % 2 ^ j := by
  apply Nat.eq_of_testBit_eq
  intro i
  rw [Nat.testBit_mod_two_pow]
  by_cases h : p.testBit j = true
  · rw [if_pos h, addN_bit', Nat.testBit_mod_two_pow]
    by_cases hi : i = j
    · subst hi; simp [h]
    · by_cases h2 : i < j
      · simp [h2, hi, show i < j + 1 by omega]
      · simp [h2, hi, show ¬ i < j + 1 by omega]
  · rw [if_neg h, Nat.testBit_mod_two_pow]
    have h' : p.testBit j = false := by simpa using h
    by_cases hi : i = j
    · subst hi; simp [h']
    · by_cases h2 : i < j
      · simp [h2, show i < j + 1 by omega]
      · simp [h2, show ¬ i < j + 1 by omega]
structure GOk (N : List (List UInt8)) (E : List EdgeT) (p m : Nat) : Prop where
  n64 : N.length ≤ 64
  good : N.all goodName = true
  up : Up N
  out : E.any (edgeOut N.length) = false
  ris : risesB edgeLt E = true
  p : p < 2 ^ N.length
  m : m < 2 ^ N.length
theorem lt_of_minus {t n : Nat} (hn : n ≤ 64) (ht : t < 18446744073709551616) (h : minus t (upTo n) = 0) : t < 2 ^ n := by
  apply Nat.lt_pow_two_of_testBit
  intro i hi
  by_cases hl : t.testBit i = true
  · have hb : (minus t (upTo n)).testBit i = true := by
      rw [minus_bit ht (by
        have : 2 ^ n ≤ 2 ^ 64 := Nat.pow_le_pow_right (by omega) hn
        unfold upTo B64
        omega), hl, upTo_bit]
      simp
      omega
    rw [h] at hb
    simp at hb
  · simpa using hl
theorem gOk {N : List (List UInt8)} {E : List EdgeT} {p m : Nat} (hp : p < 18446744073709551616) (hm : m < 18446744073709551616) (h : grErr N E p m = 0) : GOk N E p m := by
  obtain ⟨h1, h2, h3, h4, h5, h6⟩ := gr_ok h
  have hpm : p ||| m < 18446744073709551616 := by
    have : (18446744073709551616 : Nat) = 2 ^ 64 := rfl
    rw [this] at *
    exact Nat.or_lt_two_pow hp hm
  have hlt := lt_of_minus h1 hpm h6
  exact ⟨h1, h2, rises_up h3, h4, h5, Nat.lt_of_le_of_lt Nat.left_le_or hlt, Nat.lt_of_le_of_lt Nat.right_le_or hlt⟩
theorem upG_zero (N : List (List UInt8)) (E : List EdgeT) (p m : Nat) : upG N E p m 0 = ([], [], 0, 0) := by
  unfold upG
  simp [Nat.mod_one]
theorem upG_node {N : List (List UInt8)} (E : List EdgeT) (p m : Nat) {j : Nat} (hj : j < N.length) : upG N E p m (j + 1) = (N.take j ++ [nmAt N j], [], (if p.testBit j then addN (p % 2 ^ j) j else p % 2 ^ j), if m.testBit j then addN (m % 2 ^ j) j else m % 2 ^ j) := by
  unfold upG
  rw [mod_bit, mod_bit, show j + 1 - N.length = 0 by omega, List.take_add_one]
  unfold nmAt
  rw [List.getD_eq_getElem?_getD, List.getElem?_eq_getElem hj]
  rfl
theorem upG_node0 {N : List (List UInt8)} (E : List EdgeT) (p m : Nat) {j : Nat} (hj : j < N.length) : upG N E p m j = (N.take j, [], p % 2 ^ j, m % 2 ^ j) := by
  unfold upG
  rw [show j - N.length = 0 by omega]
  rfl
section
variable {N : List (List UInt8)} {E : List EdgeT} {p m : Nat} (h : GOk N E p m)
include h
theorem nmAt_place {i : Nat} (hi : i < N.length) : placeMax N (nmAt N i) = i ∧ hasS N (nmAt N i) = true := by
  have e : N[i]? = some (nmAt N i) := by unfold nmAt; rw [List.getD_eq_getElem?_getD, List.getElem?_eq_getElem hi]; rfl
  have hm := List.mem_of_getElem? e
  exact ⟨placeMax_in h.up hm e, by unfold hasS; simp [hm]⟩
theorem upG_end : upG N E p m (N.length + E.length) = (N, E, p, m) := by
  unfold upG
  have hp : 2 ^ N.length ≤ 2 ^ (N.length + E.length) := Nat.pow_le_pow_right (by omega) (by omega)
  rw [List.take_of_length_le (by omega), show N.length + E.length - N.length = E.length by omega, List.take_length, Nat.mod_eq_of_lt (Nat.lt_of_lt_of_le h.p hp), Nat.mod_eq_of_lt (Nat.lt_of_lt_of_le h.m hp)]
theorem upG_link {j : Nat} {e : EdgeT} (hj : N.length ≤ j) (he : E[j - N.length]? = some e) : upG N E p m (j + 1) = (N, E.take (j - N.length) ++ [e], p, m) ∧ upG N E p m j = (N, E.take (j - N.length), p, m) := by
  have hp : 2 ^ N.length ≤ 2 ^ j := Nat.pow_le_pow_right (by omega) hj
  have hp1 : 2 ^ N.length ≤ 2 ^ (j + 1) := Nat.pow_le_pow_right (by omega) (by omega)
  have h1 := h.p
  have h2 := h.m
  constructor
  · unfold upG
    rw [List.take_of_length_le (by omega), show j + 1 - N.length = (j - N.length) + 1 by omega, List.take_add_one, he, Nat.mod_eq_of_lt (by omega), Nat.mod_eq_of_lt (by omega)]
    rfl
  · unfold upG
    rw [List.take_of_length_le (by omega), Nat.mod_eq_of_lt (by omega), Nat.mod_eq_of_lt (by omega)]
theorem line_step {j : Nat} {x : List UInt8} {ok : Bool} {G' : GrT} (hx : (linesG N E p m)[j]? = some x) (hl : LineRel (upG N E p m j) (x ++ [10]) ok G') : ok = true ∧ G' = upG N E p m (j + 1) := by
  by_cases hj : j < N.length
  · rw [linesG_node E p m hj] at hx
    injection hx with hx
    subst hx
    rw [upG_node0 E p m hj] at hl
    rw [upG_node E p m hj]
    unfold LineRel at hl
    rw [split_node (good_no (nmAt_good h.good hj) sgn_q)] at hl
    have hlen : (N.take j).length = j := by rw [List.length_take]; omega
    have h64 := h.n64
    simp only [hlen, (tag_has _ _).1, (tag_has _ _).2] at hl
    rw [if_neg (by omega)] at hl
    exact hl
  · have hlt : j < N.length + E.length := by
      have := (List.getElem?_eq_some_iff.1 hx).1
      rwa [linesG_len] at this
    obtain ⟨e, he⟩ : ∃ e, E[j - N.length]? = some e := ⟨_, List.getElem?_eq_getElem (by omega)⟩
    rw [linesG_link p m (by omega) he] at hx
    injection hx with hx
    subst hx
    obtain ⟨e1, e2⟩ := upG_link h (by omega) he
    obtain ⟨h1, h2, h3, h4⟩ := edge_at h.out (List.mem_of_getElem? he)
    rw [e2] at hl
    rw [e1]
    unfold LineRel at hl
    rw [split_link (good_no (nmAt_good h.good h1) sgn_q) (good_no (nmAt_good h.good h2) sgn_q)] at hl
    obtain ⟨a, b, fa, fb, rfl, rfl, hu⟩ := hl
    obtain ⟨rfl, rfl, rfl, rfl⟩ := hu h.up
    rw [(nmAt_place h h1).1, (nmAt_place h h1).2, (nmAt_place h h2).1, (nmAt_place h h2).2]
    refine ⟨rfl, ?_⟩
    rw [show ((e.1.toNat : Nat) : Int) = e.1 by omega, show ((e.2.toNat : Nat) : Int) = e.2 by omega]
end
end Go.Proofs.YtoandhhkmkgmaaaGreatDoor
/- Drawings read back, plain: the reference's way to read one; who reads a drawing gets the one graph that it draws. No program in sight. -/
namespace Go.Proofs.YtoandhhkmkgmaaaGreatDoor

/-- What lies between a head and a tail. -/
def betw (s h t : List UInt8) : Option (List UInt8) := if h <+: s ∧ t <:+ s.drop h.length then some ((s.drop h.length).take (s.length - h.length - t.length)) else none
theorem betw_app (h b t : List UInt8) : betw (h ++ b ++ t) h t = some b := by
  unfold betw
  rw [List.append_assoc, List.drop_left, if_pos ⟨List.prefix_append _ _, List.suffix_append _ _⟩]
  simp
theorem betw_no {s h t e : List UInt8} (he : e <:+ s) (n1 : ¬ e <:+ t) (n2 : ¬ t <:+ e) : betw s h t = none := by
  unfold betw
  rw [if_neg]
  rintro ⟨_, h2⟩
  rcases List.suffix_or_suffix_of_suffix he (h2.trans (List.drop_suffix _ _)) with hx | hx
  · exact n1 hx
  · exact n2 hx
def endI (i : Nat) : List UInt8 := endT (decide (i % 2 = 1)) (decide (1 < i))
def refEnd (x : List UInt8) (i : Nat) (G : GrT) : Option GrT := match betw x preT (endI i) with
  | none => some G
  | some n => if G.1.length = 64 then none else some (G.1 ++ [n], G.2.1, (if 1 < i then addN G.2.2.1 G.1.length else G.2.2.1), if i % 2 = 1 then addN G.2.2.2 G.1.length else G.2.2.2)
def refTwo (x : List UInt8) (G : GrT) : Option GrT := match betw x preT clsT with
  | none => some G
  | some t => match splitC 34 t with
    | [a, _, c] => if placeOf G.1 a < 0 ∨ placeOf G.1 c < 0 then none else some (G.1, G.2.1 ++ [(placeOf G.1 a, placeOf G.1 c)], G.2.2.1, G.2.2.2)
    | _ => none
def refEnds (x : List UInt8) : Nat → GrT → Option GrT
  | 0, G => some G
  | k + 1, G => (refEnds x k G).bind (refEnd x k)
def refLine (x : List UInt8) (G : GrT) : Option GrT := if x = [] then some G else (refEnds x 4 G).bind (refTwo x)
def refAll : List (List UInt8) → GrT → Option GrT
  | [], G => some G
  | x :: L, G => (refLine x G).bind (refAll L)
def refRead (s : List UInt8) : Option GrT := (betw s dHead dTail).bind fun body => (refAll (splitC 10 body) ([], [], 0, 0)).bind fun G => if grErr G.1 G.2.1 G.2.2.1 G.2.2.2 = 0 ∧ drawT G.1 G.2.1 G.2.2.1 G.2.2.2 = s then some G else none
theorem refAll_app (x : List UInt8) : ∀ (L : List (List UInt8)) (G : GrT), refAll (L ++ [x]) G = (refAll L G).bind (refLine x)
  | [], G => by
    show (refLine x G).bind (refAll []) = refLine x G
    cases refLine x G <;> rfl
  | y :: L, G => by
    show (refLine y G).bind (refAll (L ++ [x])) = ((refLine y G).bind (refAll L)).bind (refLine x)
    cases refLine y G with
    | none => rfl
    | some G1 => exact refAll_app x L G1
theorem refAll_take {L : List (List UInt8)} {j : Nat} {x : List UInt8} (h : L[j]? = some x) (G : GrT) : refAll (L.take (j + 1)) G = (refAll (L.take j) G).bind (refLine x) := by
  rw [List.take_add_one, h]
  exact refAll_app x _ G
theorem refAll_none {L : List (List UInt8)} {j : Nat} {G : GrT} (h : refAll (L.take j) G = none) : refAll L G = none := by
  have key : ∀ (M K : List (List UInt8)) (G : GrT), refAll M G = none → refAll (M ++ K) G = none := fun M K => by
    induction M with
    | nil => intro G h; cases h
    | cons y M ih =>
      intro G h
      show (refLine y G).bind (refAll (M ++ K)) = none
      have h' : (refLine y G).bind (refAll M) = none := h
      cases hy : refLine y G with
      | none => rfl
      | some G1 => rw [hy] at h'; exact ih G1 h'
  have := key _ (L.drop j) G h
  rwa [List.take_append_drop] at this
theorem refEnds_none {x : List UInt8} {G : GrT} {k : Nat} (h : refEnds x k G = none) : ∀ d, refEnds x (k + d) G = none
  | 0 => h
  | d + 1 => by
    show (refEnds x (k + d) G).bind (refEnd x (k + d)) = none
    rw [refEnds_none h d]
    rfl
theorem place_eq {N : List (List UInt8)} {s : List UInt8} (h : hasS N s = true) : placeOf N s = placeMax N s := by
  unfold hasS at h
  have h' := of_decide_eq_true h
  unfold placeOf placeMax
  rw [if_pos h', if_pos h']
theorem end_ne : ∀ (a b c d : Bool), (a, b) ≠ (c, d) → ¬ endT a b <:+ endT c d ∧ ¬ endT c d <:+ endT a b := by decide
theorem end_cls : ∀ (a b : Bool), ¬ endT a b <:+ clsT ∧ ¬ clsT <:+ endT a b := by decide
theorem node_end (s : List UInt8) (md ph : Bool) : endT md ph <:+ nodeL s md ph := ⟨preT ++ s, rfl⟩
theorem refEnd_node (s : List UInt8) (md ph : Bool) (i : Nat) (G : GrT) (hG : G.1.length ≠ 64) : refEnd (nodeL s md ph) i G = if (decide (i % 2 = 1), decide (1 < i)) = (md, ph) then some (G.1 ++ [s], G.2.1, (if ph then addN G.2.2.1 G.1.length else G.2.2.1), if md then addN G.2.2.2 G.1.length else G.2.2.2) else some G := by
  unfold refEnd endI
  by_cases h : (decide (i % 2 = 1), decide (1 < i)) = (md, ph)
  · rw [if_pos h]
    injection h with h1 h2
    rw [h1, h2]
    unfold nodeL
    rw [betw_app]
    dsimp only
    rw [if_neg hG]
    subst h1 h2
    simp only [decide_eq_true_eq]
  · rw [if_neg h, betw_no (node_end s md ph) (end_ne _ _ _ _ (fun e => h e.symm)).1 (end_ne _ _ _ _ (fun e => h e.symm)).2]
theorem refLine_node (s : List UInt8) (md ph : Bool) (G : GrT) (hG : G.1.length < 64) : refLine (nodeL s md ph) G = some (G.1 ++ [s], G.2.1, (if ph then addN G.2.2.1 G.1.length else G.2.2.1), if md then addN G.2.2.2 G.1.length else G.2.2.2) := by
  have hE : refEnds (nodeL s md ph) 4 G = some (G.1 ++ [s], G.2.1, (if ph then addN G.2.2.1 G.1.length else G.2.2.1), if md then addN G.2.2.2 G.1.length else G.2.2.2) := by
    have hX : ∀ (i : Nat) (K : GrT), (decide (i % 2 = 1), decide (1 < i)) ≠ (md, ph) → refEnd (nodeL s md ph) i K = some K := fun i K h => by
      unfold refEnd endI
      rw [betw_no (node_end s md ph) (end_ne _ _ _ _ (fun e => h e.symm)).1 (end_ne _ _ _ _ (fun e => h e.symm)).2]
    have hY := fun i => refEnd_node s md ph i G (by omega)
    have key : ∀ (k : Nat), k < 4 → (decide (k % 2 = 1), decide (1 < k)) = (md, ph) → ∀ i, i < 4 → i ≠ k → (decide (i % 2 = 1), decide (1 < i)) ≠ (md, ph) := by
      intro k hk he i hi hne he2
      rw [← he] at he2
      injection he2 with a b
      rw [decide_eq_decide] at a b
      omega
    obtain ⟨k, hk, he⟩ : ∃ k, k < 4 ∧ (decide (k % 2 = 1), decide (1 < k)) = (md, ph) := by
      cases md <;> cases ph
      · exact ⟨0, by decide, by decide⟩
      · exact ⟨2, by decide, by decide⟩
      · exact ⟨1, by decide, by decide⟩
      · exact ⟨3, by decide, by decide⟩
    have hk0 := hY k
    rw [if_pos he] at hk0
    have kk := key k hk he
    rcases (by omega : k = 0 ∨ k = 1 ∨ k = 2 ∨ k = 3) with rfl | rfl | rfl | rfl
    · simp only [refEnds, Option.bind_some, hk0, hX 1 _ (kk 1 (by omega) (by omega)), hX 2 _ (kk 2 (by omega) (by omega)), hX 3 _ (kk 3 (by omega) (by omega))]
    · simp only [refEnds, Option.bind_some, hk0, hX 0 _ (kk 0 (by omega) (by omega)), hX 2 _ (kk 2 (by omega) (by omega)), hX 3 _ (kk 3 (by omega) (by omega))]
    · simp only [refEnds, Option.bind_some, hk0, hX 0 _ (kk 0 (by omega) (by omega)), hX 1 _ (kk 1 (by omega) (by omega)), hX 3 _ (kk 3 (by omega) (by omega))]
    · simp only [refEnds, Option.bind_some, hk0, hX 0 _ (kk 0 (by omega) (by omega)), hX 1 _ (kk 1 (by omega) (by omega)), hX 2 _ (kk 2 (by omega) (by omega))]
  unfold refLine
  rw [if_neg (by unfold nodeL preT; simp), hE]
  show refTwo _ _ = _
  unfold refTwo
  rw [betw_no (node_end s md ph) (end_cls _ _).1 (end_cls _ _).2]
theorem link_end (a b : List UInt8) : clsT <:+ linkL a b := ⟨preT ++ a ++ midT ++ b, rfl⟩
theorem refLine_link (a b : List UInt8) (G : GrT) (ha : (34 : UInt8) ∉ a) (hb : (34 : UInt8) ∉ b) (h1 : hasS G.1 a = true) (h2 : hasS G.1 b = true) : refLine (linkL a b) G = some (G.1, G.2.1 ++ [(placeMax G.1 a, placeMax G.1 b)], G.2.2.1, G.2.2.2) := by
  have hX : ∀ (i : Nat) (K : GrT), refEnd (linkL a b) i K = some K := fun i K => by
    unfold refEnd endI
    rw [betw_no (link_end a b) (end_cls _ _).2 (end_cls _ _).1]
  have hE : refEnds (linkL a b) 4 G = some G := by simp only [refEnds, Option.bind_some, hX]
  unfold refLine
  rw [if_neg (by unfold linkL preT; simp), hE]
  show refTwo _ _ = _
  have hB : betw (linkL a b) preT clsT = some (a ++ 34 :: ([32, 45, 62, 32] ++ 34 :: b)) := by
    have e : linkL a b = preT ++ (a ++ 34 :: ([32, 45, 62, 32] ++ 34 :: b)) ++ clsT := by unfold linkL midT; simp
    rw [e, betw_app]
  have hS : splitC 34 (a ++ 34 :: ([32, 45, 62, 32] ++ 34 :: b)) = [a, [32, 45, 62, 32], b] := by rw [splitC_app _ ha, splitC_app _ (by decide), splitC_free hb]
  unfold refTwo
  rw [hB]
  dsimp only
  rw [hS]
  dsimp only
  rw [place_eq h1, place_eq h2, if_neg (by unfold placeMax; split <;> split <;> omega)]
section
variable {N : List (List UInt8)} {E : List EdgeT} {p m : Nat} (h : GOk N E p m)
include h
theorem refLine_step {j : Nat} {x : List UInt8} (hx : (linesG N E p m)[j]? = some x) : refLine x (upG N E p m j) = some (upG N E p m (j + 1)) := by
  by_cases hj : j < N.length
  · rw [linesG_node E p m hj] at hx
    injection hx with hx
    subst hx
    have h64 := h.n64
    have hlen : (N.take j).length = j := by rw [List.length_take]; omega
    rw [upG_node0 E p m hj, upG_node E p m hj, refLine_node _ _ _ _ (by show (N.take j).length < 64; omega)]
    simp only [hlen]
  · have hlt : j < N.length + E.length := by
      have := (List.getElem?_eq_some_iff.1 hx).1
      rwa [linesG_len] at this
    obtain ⟨e, he⟩ : ∃ e, E[j - N.length]? = some e := ⟨_, List.getElem?_eq_getElem (by omega)⟩
    rw [linesG_link p m (by omega) he] at hx
    injection hx with hx
    subst hx
    obtain ⟨e1, e2⟩ := upG_link h (by omega) he
    obtain ⟨h1, h2, h3, h4⟩ := edge_at h.out (List.mem_of_getElem? he)
    rw [e1, e2, refLine_link _ _ _ (good_no (nmAt_good h.good h1) sgn_q) (good_no (nmAt_good h.good h2) sgn_q) (nmAt_place h h1).2 (nmAt_place h h2).2, (nmAt_place h h1).1, (nmAt_place h h2).1]
    dsimp only
    rw [show ((e.1.toNat : Nat) : Int) = e.1 by omega, show ((e.2.toNat : Nat) : Int) = e.2 by omega]
theorem refAll_draw : ∀ j, j ≤ (linesG N E p m).length → refAll ((linesG N E p m).take j) ([], [], 0, 0) = some (upG N E p m j)
  | 0, _ => by rw [upG_zero]; rfl
  | j + 1, hj => by
    obtain ⟨x, hx⟩ : ∃ x, (linesG N E p m)[j]? = some x := ⟨_, List.getElem?_eq_getElem (by omega)⟩
    rw [refAll_take hx, refAll_draw j (by omega)]
    exact refLine_step h hx
theorem refRead_draw (hg : grErr N E p m = 0) : refRead (drawT N E p m) = some (N, E, p, m) := by
  unfold refRead
  have hb : betw (drawT N E p m) dHead dTail = some (nlT (linesG N E p m)) := betw_app _ _ _
  rw [hb, Option.bind_some, split_nlT (lines_free p m h.good h.out), refAll_app]
  have hA := refAll_draw h (linesG N E p m).length (Nat.le_refl _)
  rw [List.take_length, linesG_len, upG_end h] at hA
  rw [hA, Option.bind_some]
  show (refLine [] (N, E, p, m)).bind _ = _
  rw [show refLine [] (N, E, p, m) = some (N, E, p, m) from rfl, Option.bind_some]
  dsimp only
  rw [if_pos ⟨hg, rfl⟩]
end
/-- What a reader of drawings tells. -/
def Reads (s : List UInt8) (o : Option GrT) : Prop := (∀ N E p m, o = some (N, E, p, m) → grErr N E p m = 0 ∧ p < 18446744073709551616 ∧ m < 18446744073709551616 ∧ drawT N E p m = s) ∧ (∀ N E p m, grErr N E p m = 0 → p < 18446744073709551616 → m < 18446744073709551616 → drawT N E p m = s → o = some (N, E, p, m))
theorem reads_one {s : List UInt8} {o o' : Option GrT} (h : Reads s o) (h' : Reads s o') : o = o' := by
  cases o with
  | some G =>
    obtain ⟨N, E, p, m⟩ := G
    obtain ⟨a, b, c, d⟩ := h.1 _ _ _ _ rfl
    exact (h'.2 _ _ _ _ a b c d).symm
  | none =>
    cases o' with
    | none => rfl
    | some G =>
      obtain ⟨N, E, p, m⟩ := G
      obtain ⟨a, b, c, d⟩ := h'.1 _ _ _ _ rfl
      exact h.2 _ _ _ _ a b c d
def B64G (G : GrT) : Prop := G.2.2.1 < 18446744073709551616 ∧ G.2.2.2 < 18446744073709551616
theorem addN_lt {s n : Nat} (hs : s < 18446744073709551616) (hn : n < 64) : addN s n < 18446744073709551616 := addN_b64 hs hn
theorem refEnd_b64 {x : List UInt8} {i : Nat} {G G' : GrT} (h : refEnd x i G = some G') (hG : B64G G ∧ G.1.length ≤ 64) : B64G G' ∧ G'.1.length ≤ 64 := by
  unfold refEnd at h
  split at h
  · injection h with h; subst h; exact hG
  · rename_i n _
    by_cases h64 : G.1.length = 64
    · rw [if_pos h64] at h; cases h
    · rw [if_neg h64] at h
      injection h with h
      subst h
      have hlt : G.1.length < 64 := by have := hG.2; omega
      refine ⟨⟨?_, ?_⟩, by simp; omega⟩
      · show (if 1 < i then addN G.2.2.1 G.1.length else G.2.2.1) < _
        split
        · exact addN_lt hG.1.1 hlt
        · exact hG.1.1
      · show (if i % 2 = 1 then addN G.2.2.2 G.1.length else G.2.2.2) < _
        split
        · exact addN_lt hG.1.2 hlt
        · exact hG.1.2
theorem refEnds_b64 {x : List UInt8} {G : GrT} (hG : B64G G ∧ G.1.length ≤ 64) : ∀ {k : Nat} {G' : GrT}, refEnds x k G = some G' → B64G G' ∧ G'.1.length ≤ 64
  | 0, G', h => by injection h with h; subst h; exact hG
  | k + 1, G', h => by
    have h' : (refEnds x k G).bind (refEnd x k) = some G' := h
    cases he : refEnds x k G with
    | none => rw [he] at h'; cases h'
    | some G1 => rw [he] at h'; exact refEnd_b64 h' (refEnds_b64 hG he)
theorem refTwo_b64 {x : List UInt8} {G G' : GrT} (h : refTwo x G = some G') (hG : B64G G ∧ G.1.length ≤ 64) : B64G G' ∧ G'.1.length ≤ 64 := by
  unfold refTwo at h
  split at h
  · injection h with h; subst h; exact hG
  · split at h
    · split at h
      · cases h
      · injection h with h; subst h; exact hG
    · cases h
theorem refLine_b64 {x : List UInt8} {G G' : GrT} (h : refLine x G = some G') (hG : B64G G ∧ G.1.length ≤ 64) : B64G G' ∧ G'.1.length ≤ 64 := by
  unfold refLine at h
  split at h
  · injection h with h; subst h; exact hG
  · cases he : refEnds x 4 G with
    | none => rw [he] at h; cases h
    | some G1 => rw [he] at h; exact refTwo_b64 h (refEnds_b64 hG he)
theorem refAll_b64 : ∀ {L : List (List UInt8)} {G G' : GrT}, refAll L G = some G' → B64G G ∧ G.1.length ≤ 64 → B64G G' ∧ G'.1.length ≤ 64
  | [], G, G', h, hG => by injection h with h; subst h; exact hG
  | x :: L, G, G', h, hG => by
    have h' : (refLine x G).bind (refAll L) = some G' := h
    cases he : refLine x G with
    | none => rw [he] at h'; cases h'
    | some G1 => rw [he] at h'; exact refAll_b64 h' (refLine_b64 he hG)
theorem refRead_reads (s : List UInt8) : Reads s (refRead s) := by
  refine ⟨fun N E p m h => ?_, fun N E p m hg hp hm hd => ?_⟩
  · unfold refRead at h
    cases hb : betw s dHead dTail with
    | none => rw [hb] at h; cases h
    | some body =>
      rw [hb, Option.bind_some] at h
      cases ha : refAll (splitC 10 body) ([], [], 0, 0) with
      | none => rw [ha] at h; cases h
      | some G =>
        rw [ha, Option.bind_some] at h
        have hq := refAll_b64 ha ⟨⟨by decide, by decide⟩, by simp⟩
        split at h
        · rename_i hc
          injection h with h
          subst h
          exact ⟨hc.1, hq.1.1, hq.1.2, hc.2⟩
        · cases h
  · subst hd
    exact refRead_draw (gOk hp hm hg) hg
end Go.Proofs.YtoandhhkmkgmaaaGreatDoor
/- Drawings read line by line, plain: what is known of the graph behind each line, and at the end. No program in sight. -/
namespace Go.Proofs.YtoandhhkmkgmaaaGreatDoor

theorem linesD_le : ∀ (s : List UInt8) (l : List UInt8), l ∈ linesL s → l.length ≤ s.length
  | [], l, h => by simp [linesL] at h
  | x :: r, l, h => by
    rw [linesG_cons] at h
    by_cases hx : x = 10
    · rw [if_pos hx, List.mem_cons] at h
      rcases h with rfl | h
      · simp
      · have := linesD_le r l h; simp; omega
    · rw [if_neg hx] at h
      cases hq : linesL r with
      | nil => rw [hq] at h; simp at h; subst h; simp
      | cons p q =>
        rw [hq] at h
        simp only [List.mem_cons] at h
        rcases h with rfl | h
        · have := linesD_le r p (by rw [hq]; simp); simp; omega
        · have := linesD_le r l (by rw [hq]; simp [h]); simp; omega
theorem linesD_len : ∀ s : List UInt8, (linesL s).length ≤ s.length
  | [] => by simp [linesL]
  | x :: r => by
    have ih := linesD_len r
    rw [linesG_cons]
    by_cases hx : x = 10
    · rw [if_pos hx]; simp; omega
    · rw [if_neg hx]
      cases hq : linesL r with
      | nil => simp
      | cons p q => rw [hq] at ih; simp at ih ⊢; omega
theorem betw_cut (s : List UInt8) : betw s dHead dTail = if Lib.hasPrefix s dHead = true ∧ Lib.hasSuffix (Lib.trimPrefix s dHead) dTail = true then some (Lib.trimSuffix (Lib.trimPrefix s dHead) dTail) else none := by
  unfold betw Lib.trimSuffix Lib.trimPrefix Lib.hasPrefix Lib.hasSuffix
  by_cases h1 : dHead <+: s
  · have h1' : dHead.isPrefixOf s = true := List.isPrefixOf_iff_prefix.2 h1
    simp only [h1', if_true, true_and]
    by_cases h2 : dTail <:+ s.drop dHead.length
    · have h2' : dTail.isSuffixOf (s.drop dHead.length) = true := List.isSuffixOf_iff_suffix.2 h2
      rw [if_pos ⟨h1, h2⟩, if_pos h2', if_pos h2', List.length_drop]
    · have h2' : ¬ dTail.isSuffixOf (s.drop dHead.length) = true := fun e => h2 (List.isSuffixOf_iff_suffix.1 e)
      rw [if_neg (fun e => h2 e.2), if_neg h2']
  · have h1' : ¬ dHead.isPrefixOf s = true := fun e => h1 (List.isPrefixOf_iff_prefix.1 e)
    rw [if_neg (fun e => h1 e.1), if_neg (fun e => h1' e.1)]
theorem reads_no {s : List UInt8} (h : ∀ N E p m, grErr N E p m = 0 → p < 18446744073709551616 → m < 18446744073709551616 → drawT N E p m = s → False) : Reads s none :=
  ⟨fun _ _ _ _ e => (by cases e), fun N E p m a b c d => (h N E p m a b c d).elim⟩
theorem betw_draw (N : List (List UInt8)) (E : List EdgeT) (p m : Nat) : betw (drawT N E p m) dHead dTail = some (nlT (linesG N E p m)) := betw_app _ _ _
theorem reads_betw {s : List UInt8} (h : betw s dHead dTail = none) : Reads s none := reads_no fun N E p m _ _ _ d => by
  rw [← d, betw_draw] at h
  cases h
/-- What is known of the graph behind j lines. -/
def Kn (s : List UInt8) (j : Nat) (G : GrT) : Prop := ∀ N E p m, grErr N E p m = 0 → p < 18446744073709551616 → m < 18446744073709551616 → drawT N E p m = s → G = upG N E p m j
theorem kn_zero (s : List UInt8) : Kn s 0 ([], [], 0, 0) := fun N E p m _ _ _ _ => (upG_zero N E p m).symm
theorem kn_line {s bd : List UInt8} (hb : betw s dHead dTail = some bd) {ls : List (List UInt8)} {x : List UInt8} (hx : ls ++ [x] <+: linesL bd) {G G' : GrT} {ok : Bool} (hk : Kn s ls.length G) (hl : LineRel G x ok G') {N : List (List UInt8)} {E : List EdgeT} {p m : Nat} (a : grErr N E p m = 0) (b : p < 18446744073709551616) (c : m < 18446744073709551616) (d : drawT N E p m = s) : ok = true ∧ G' = upG N E p m (ls.length + 1) := by
  have hg := gOk b c a
  have e1 := hk N E p m a b c d
  rw [← d, betw_draw] at hb
  injection hb with hb
  rw [← hb, lines_nlT (lines_free p m hg.good hg.out)] at hx
  have hx2 : ((linesG N E p m).map (· ++ [10]))[ls.length]? = some x := by
    obtain ⟨r, hr⟩ := hx
    rw [← hr, List.append_assoc, List.getElem?_append_right (Nat.le_refl _)]
    simp
  rw [List.getElem?_map] at hx2
  cases hy : (linesG N E p m)[ls.length]? with
  | none => rw [hy] at hx2; cases hx2
  | some y =>
    rw [hy] at hx2
    injection hx2 with hx2
    subst hx2
    rw [e1] at hl
    exact line_step hg hy hl
theorem kn_next {s bd : List UInt8} (hb : betw s dHead dTail = some bd) {ls : List (List UInt8)} {x : List UInt8} (hx : ls ++ [x] <+: linesL bd) {G G' : GrT} {ok : Bool} (hk : Kn s ls.length G) (hl : LineRel G x ok G') : Kn s (ls ++ [x]).length G' := fun N E p m a b c d => by
  rw [List.length_append, List.length_singleton]
  exact (kn_line hb hx hk hl a b c d).2
theorem kn_stop {s bd : List UInt8} (hb : betw s dHead dTail = some bd) {ls : List (List UInt8)} {x : List UInt8} (hx : ls ++ [x] <+: linesL bd) {G G' : GrT} (hk : Kn s ls.length G) (hl : LineRel G x false G') : Reads s none := reads_no fun N E p m a b c d => by
  have := (kn_line hb hx hk hl a b c d).1
  cases this
theorem kn_end {s bd : List UInt8} (hb : betw s dHead dTail = some bd) {N : List (List UInt8)} {E : List EdgeT} {p m : Nat} (hk : Kn s (linesL bd).length (N, E, p, m)) (hp : p < 18446744073709551616) (hm : m < 18446744073709551616) : Reads s (if grErr N E p m = 0 ∧ drawT N E p m = s then some (N, E, p, m) else none) := by
  refine ⟨fun N' E' p' m' h => ?_, fun N' E' p' m' a b c d => ?_⟩
  · split at h
    · rename_i hc
      injection h with h
      injection h with h1 h
      injection h with h2 h
      injection h with h3 h4
      subst h1 h2 h3 h4
      exact ⟨hc.1, hp, hm, hc.2⟩
    · cases h
  · have hg := gOk b c a
    have e1 := hk N' E' p' m' a b c d
    have hb' := hb
    rw [← d, betw_draw] at hb'
    injection hb' with hb'
    rw [← hb', lines_nlT (lines_free p' m' hg.good hg.out), List.length_map, linesG_len, upG_end hg] at e1
    injection e1 with h1 h
    injection h with h2 h
    injection h with h3 h4
    subst h1 h2 h3 h4
    rw [if_pos ⟨a, d⟩]
theorem lineRel_bounds {N : List (List UInt8)} {E : List EdgeT} {p m : Nat} {s : List UInt8} {ok : Bool} {N' : List (List UInt8)} {E' : List EdgeT} {p' m' : Nat} (h : LineRel (N, E, p, m) s ok (N', E', p', m')) (hN : N.length ≤ 64) (hp : p < 18446744073709551616) (hm : m < 18446744073709551616) : N'.length ≤ 64 ∧ E'.length ≤ E.length + 1 ∧ p' < 18446744073709551616 ∧ m' < 18446744073709551616 := by
  unfold LineRel at h
  split at h
  · dsimp only at h
    by_cases h64 : N.length = 64
    · rw [if_pos h64] at h
      obtain ⟨_, h⟩ := h
      injection h with h1 h
      injection h with h2 h
      injection h with h3 h4
      subst h1 h2 h3 h4
      exact ⟨hN, by omega, hp, hm⟩
    · rw [if_neg h64] at h
      obtain ⟨_, h⟩ := h
      injection h with h1 h
      injection h with h2 h
      injection h with h3 h4
      subst h1 h2
      refine ⟨by simp; omega, by omega, ?_, ?_⟩
      · rw [h3]; split
        · exact addN_lt hp (by omega)
        · exact hp
      · rw [h4]; split
        · exact addN_lt hm (by omega)
        · exact hm
  · obtain ⟨i, j, fa, fb, _, h, _⟩ := h
    injection h with h1 h
    injection h with h2 h
    injection h with h3 h4
    subst h1 h2 h3 h4
    exact ⟨hN, by simp, hp, hm⟩
  · obtain ⟨_, h⟩ := h
    injection h with h1 h
    injection h with h2 h
    injection h with h3 h4
    subst h1 h2 h3 h4
    exact ⟨hN, by omega, hp, hm⟩
/-- What dot.Read tells. -/
def OutO (o : Option GrT) (N : List (List UInt8)) (E : List EdgeT) (p m : Nat) (er : Int) : Prop := match o with
  | none => er = 3 ∧ N = [] ∧ E = [] ∧ p = 0 ∧ m = 0
  | some G => er = 0 ∧ (N, E, p, m) = G
def OutIs (s : List UInt8) (N : List (List UInt8)) (E : List EdgeT) (p m : Nat) (er : Int) : Prop :=
  if 400000 < s.length then er = 2 ∧ N = [] ∧ E = [] ∧ p = 0 ∧ m = 0 else ∃ o, Reads s o ∧ OutO o N E p m er
theorem out_none {s : List UInt8} (hs : s.length ≤ 400000) (h : Reads s none) : OutIs s [] [] 0 0 3 := by
  unfold OutIs
  rw [if_neg (by omega)]
  exact ⟨none, h, rfl, rfl, rfl, rfl, rfl⟩
theorem out_some {s : List UInt8} (hs : s.length ≤ 400000) {N : List (List UInt8)} {E : List EdgeT} {p m : Nat} (h : Reads s (some (N, E, p, m))) : OutIs s N E p m 0 := by
  unfold OutIs
  rw [if_neg (by omega)]
  exact ⟨_, h, rfl, rfl⟩
end Go.Proofs.YtoandhhkmkgmaaaGreatDoor
