/- Texts that call for macros, plain: the pieces that the program's parse hands on. No program in sight. -/
import Derived.Test.YtoandhhkmkgmaaaNamePlain
import Derived.Lib.IndexMore
import Derived.Lib.Strings
namespace Go.Proofs.Ytoandhhkmkgmaaa

/-- A piece of a text: text itself (false), or a name that is called for (true). -/
abbrev PieceM := Bool × List UInt8
/-- What parse hands on, piece by piece, and whether the text ends well. -/
def parseF : Nat → List UInt8 → List PieceM × Bool
  | 0, _ => ([], false)
  | f + 1, s =>
    if (Lib.cut s [36]).2.2 = false then ([(false, (Lib.cut s [36]).1)], true) else
    if Lib.hasPrefix (Lib.cut s [36]).2.1 [36] = true then ((false, (Lib.cut s [36]).1) :: (false, [36]) :: (parseF f (Lib.trimPrefix (Lib.cut s [36]).2.1 [36])).1, (parseF f (Lib.trimPrefix (Lib.cut s [36]).2.1 [36])).2) else
    if Lib.hasPrefix (Lib.cut (Lib.cut s [36]).2.1 [41]).1 [40] = true ∧ (Lib.cut (Lib.cut s [36]).2.1 [41]).2.2 = true ∧ goodName (Lib.trimPrefix (Lib.cut (Lib.cut s [36]).2.1 [41]).1 [40]) = true then
      ((false, (Lib.cut s [36]).1) :: (true, Lib.trimPrefix (Lib.cut (Lib.cut s [36]).2.1 [41]).1 [40]) :: (parseF f (Lib.cut (Lib.cut s [36]).2.1 [41]).2.1).1, (parseF f (Lib.cut (Lib.cut s [36]).2.1 [41]).2.1).2)
    else ([(false, (Lib.cut s [36]).1)], false)
theorem index_byteM (c : UInt8) : ∀ s : List UInt8, Lib.index s [c] = Lib.indexByte s c
  | [] => rfl
  | b :: l => by
    unfold Lib.index Lib.indexByte
    rw [index_byteM c l]
    have e : ([c].isPrefixOf (b :: l)) = (b == c) := by
      simp only [List.isPrefixOf, Bool.and_true]
      exact Bool.beq_comm
    rw [e]
theorem byte_missM {c : UInt8} : ∀ {s : List UInt8}, Lib.indexByte s c = -1 → c ∉ s
  | [], _ => by simp
  | b :: l, h => by
    unfold Lib.indexByte at h
    by_cases hb : b = c
    · rw [if_pos (by simp [hb])] at h; cases h
    · rw [if_neg (by simp [hb])] at h
      by_cases hm : Lib.indexByte l c = -1
      · have := byte_missM hm
        simp only [List.mem_cons, not_or]
        exact ⟨fun e => hb e.symm, this⟩
      · rw [if_neg (by simp [hm])] at h
        have := Lib.indexByte_ge l c
        omega
theorem byte_hitM {c : UInt8} : ∀ {s : List UInt8} {i : Nat}, Lib.indexByte s c = (i : Int) → i < s.length ∧ c ∉ s.take i ∧ s = s.take i ++ c :: s.drop (i + 1)
  | [], i, h => by simp [Lib.indexByte] at h
  | b :: l, i, h => by
    unfold Lib.indexByte at h
    by_cases hb : b = c
    · rw [if_pos (by simp [hb])] at h
      obtain rfl : i = 0 := by omega
      exact ⟨by simp, by simp, by simp [hb]⟩
    · rw [if_neg (by simp [hb])] at h
      by_cases hm : Lib.indexByte l c = -1
      · rw [if_pos (by simp [hm])] at h; omega
      · rw [if_neg (by simp [hm])] at h
        have hge := Lib.indexByte_ge l c
        obtain ⟨j, hj⟩ : ∃ j : Nat, Lib.indexByte l c = (j : Int) := ⟨(Lib.indexByte l c).toNat, by omega⟩
        obtain rfl : i = j + 1 := by omega
        obtain ⟨h1, h2, h3⟩ := byte_hitM hj
        refine ⟨by simp; omega, ?_, ?_⟩
        · rw [List.take_succ_cons, List.mem_cons, not_or]
          exact ⟨fun e => hb e.symm, h2⟩
        · rw [List.take_succ_cons, List.drop_succ_cons, List.cons_append, ← h3]
/-- Cut at one byte. -/
theorem cut_none {s : List UInt8} {c : UInt8} (h : Lib.indexByte s c = -1) : Lib.cut s [c] = (s, [], false) := by
  unfold Lib.cut
  rw [index_byteM, h, if_neg (by omega)]
theorem cut_some {s : List UInt8} {c : UInt8} {i : Nat} (h : Lib.indexByte s c = (i : Int)) : Lib.cut s [c] = (s.take i, s.drop (i + 1), true) := by
  unfold Lib.cut
  rw [index_byteM, h, if_pos (by omega)]
  rfl
theorem cut_ways (s : List UInt8) (c : UInt8) : (Lib.cut s [c] = (s, [], false) ∧ c ∉ s) ∨ ∃ i, i < s.length ∧ Lib.cut s [c] = (s.take i, s.drop (i + 1), true) ∧ c ∉ s.take i ∧ s = s.take i ++ c :: s.drop (i + 1) := by
  by_cases h : Lib.indexByte s c = -1
  · exact .inl ⟨cut_none h, byte_missM h⟩
  · have hge := Lib.indexByte_ge s c
    obtain ⟨i, hi⟩ : ∃ i : Nat, Lib.indexByte s c = (i : Int) := ⟨(Lib.indexByte s c).toNat, by omega⟩
    obtain ⟨h1, h2, h3⟩ := byte_hitM hi
    exact .inr ⟨i, h1, cut_some hi, h2, h3⟩
theorem cut_len (s : List UInt8) (c : UInt8) : (Lib.cut s [c]).1.length ≤ s.length ∧ (Lib.cut s [c]).2.1.length ≤ s.length := by
  rcases cut_ways s c with ⟨h, _⟩ | ⟨i, hi, h, _⟩
  · rw [h]; simp
  · rw [h]; simp only [List.length_take, List.length_drop]; omega
theorem cut_less {s : List UInt8} {c : UInt8} (h : (Lib.cut s [c]).2.2 = true) : (Lib.cut s [c]).2.1.length < s.length := by
  rcases cut_ways s c with ⟨h1, _⟩ | ⟨i, hi, h1, _⟩
  · rw [h1] at h; cases h
  · rw [h1]; simp only [List.length_drop]; omega
theorem trimP_len (s p : List UInt8) : (Lib.trimPrefix s p).length ≤ s.length := by
  unfold Lib.trimPrefix
  split <;> simp
/-- The pieces of a text. -/
def parseM (s : List UInt8) : List PieceM × Bool := parseF (s.length + 1) s
theorem parseF_more : ∀ (f g : Nat) (s : List UInt8), s.length < f → s.length < g → parseF f s = parseF g s
  | 0, _, _, h, _ => absurd h (Nat.not_lt_zero _)
  | _, 0, _, _, h => absurd h (Nat.not_lt_zero _)
  | f + 1, g + 1, s, h1, h2 => by
    by_cases hm : (Lib.cut s [36]).2.2 = false
    · unfold parseF
      rw [if_pos hm, if_pos hm]
    · have hm' : (Lib.cut s [36]).2.2 = true := by simpa using hm
      have hl := cut_less hm'
      have ht := trimP_len (Lib.cut s [36]).2.1 [36]
      have hc := (cut_len (Lib.cut s [36]).2.1 41).2
      have e1 := parseF_more f g (Lib.trimPrefix (Lib.cut s [36]).2.1 [36]) (by omega) (by omega)
      have e2 := parseF_more f g (Lib.cut (Lib.cut s [36]).2.1 [41]).2.1 (by omega) (by omega)
      unfold parseF
      rw [if_neg hm, if_neg hm, e1, e2]
theorem parseM_eq (s : List UInt8) : parseM s =
    if (Lib.cut s [36]).2.2 = false then ([(false, (Lib.cut s [36]).1)], true) else
    if Lib.hasPrefix (Lib.cut s [36]).2.1 [36] = true then ((false, (Lib.cut s [36]).1) :: (false, [36]) :: (parseM (Lib.trimPrefix (Lib.cut s [36]).2.1 [36])).1, (parseM (Lib.trimPrefix (Lib.cut s [36]).2.1 [36])).2) else
    if Lib.hasPrefix (Lib.cut (Lib.cut s [36]).2.1 [41]).1 [40] = true ∧ (Lib.cut (Lib.cut s [36]).2.1 [41]).2.2 = true ∧ goodName (Lib.trimPrefix (Lib.cut (Lib.cut s [36]).2.1 [41]).1 [40]) = true then
      ((false, (Lib.cut s [36]).1) :: (true, Lib.trimPrefix (Lib.cut (Lib.cut s [36]).2.1 [41]).1 [40]) :: (parseM (Lib.cut (Lib.cut s [36]).2.1 [41]).2.1).1, (parseM (Lib.cut (Lib.cut s [36]).2.1 [41]).2.1).2)
    else ([(false, (Lib.cut s [36]).1)], false) := by
  unfold parseM
  conv => lhs; unfold parseF
  by_cases hm : (Lib.cut s [36]).2.2 = false
  · rw [if_pos hm, if_pos hm]
  · have hm' : (Lib.cut s [36]).2.2 = true := by simpa using hm
    have hl := cut_less hm'
    have ht := trimP_len (Lib.cut s [36]).2.1 [36]
    have hc := (cut_len (Lib.cut s [36]).2.1 41).2
    rw [if_neg hm, if_neg hm, parseF_more s.length ((Lib.trimPrefix (Lib.cut s [36]).2.1 [36]).length + 1) _ (by omega) (by omega), parseF_more s.length ((Lib.cut (Lib.cut s [36]).2.1 [41]).2.1.length + 1) _ (by omega) (by omega)]
end Go.Proofs.Ytoandhhkmkgmaaa
/- What flat makes of the pieces of a text, plain: the text with its calls put in, while it has at most 2000 bytes. No program in sight. -/
namespace Go.Proofs.Ytoandhhkmkgmaaa

/-- put: too large so far, and what is written. -/
def putM (st : Bool × List UInt8) (x : List UInt8) : Bool × List UInt8 := if st.1 = true ∨ 2000 < st.2.length + x.length then (true, st.2) else (false, st.2 ++ x)
/-- One piece; 'fl': what each name is flat. -/
def pieceM (fl : List UInt8 → Bool × List UInt8) (st : Bool × List UInt8) (p : PieceM) : Bool × List UInt8 := if p.1 = true then putM (st.1 || (fl p.2).1, st.2) (fl p.2).2 else putM st p.2
/-- The text of a piece. -/
def textM (fl : List UInt8 → Bool × List UInt8) (p : PieceM) : List UInt8 := if p.1 = true then (fl p.2).2 else p.2
/-- A piece that is too large by itself. -/
def wideM (fl : List UInt8 → Bool × List UInt8) (p : PieceM) : Bool := p.1 && (fl p.2).1
theorem pieceM_eq (fl : List UInt8 → Bool × List UInt8) (st : Bool × List UInt8) (p : PieceM) : pieceM fl st p = putM (st.1 || wideM fl p, st.2) (textM fl p) := by
  unfold pieceM wideM textM
  cases p.1 <;> simp
theorem large_stays (fl : List UInt8 → Bool × List UInt8) : ∀ (ls : List PieceM) (out : List UInt8), ls.foldl (pieceM fl) (true, out) = (true, out)
  | [], _ => rfl
  | p :: l, out => by
    have e : pieceM fl (true, out) p = (true, out) := by rw [pieceM_eq]; unfold putM; simp
    rw [List.foldl_cons, e]
    exact large_stays fl l out
theorem flat_says (fl : List UInt8 → Bool × List UInt8) : ∀ (ls : List PieceM) (out : List UInt8), out.length ≤ 2000 →
    (if (∀ p, p ∈ ls → wideM fl p = false) ∧ (out ++ ls.flatMap (textM fl)).length ≤ 2000 then ls.foldl (pieceM fl) (false, out) = (false, out ++ ls.flatMap (textM fl)) else (ls.foldl (pieceM fl) (false, out)).1 = true)
  | [], out, h => by simp [h]
  | p :: l, out, h => by
    rw [List.foldl_cons, pieceM_eq]
    by_cases hw : wideM fl p = true
    · rw [if_neg (fun hc => by have := hc.1 p (by simp); rw [hw] at this; cases this)]
      have e : putM ((false, out).1 || wideM fl p, (false, out).2) (textM fl p) = (true, out) := by unfold putM; simp [hw]
      rw [e, large_stays]
    · have hw' : wideM fl p = false := by simpa using hw
      by_cases hl : 2000 < out.length + (textM fl p).length
      · rw [if_neg (fun hc => by have := hc.2; simp only [List.flatMap_cons, List.length_append] at this; omega)]
        have e : putM ((false, out).1 || wideM fl p, (false, out).2) (textM fl p) = (true, out) := by unfold putM; simp [hl]
        rw [e, large_stays]
      · have e : putM ((false, out).1 || wideM fl p, (false, out).2) (textM fl p) = (false, out ++ textM fl p) := by unfold putM; simp [hw', hl]
        rw [e]
        have ih := flat_says fl l (out ++ textM fl p) (by rw [List.length_append]; omega)
        have e2 : out ++ (p :: l).flatMap (textM fl) = out ++ textM fl p ++ l.flatMap (textM fl) := by rw [List.flatMap_cons, List.append_assoc]
        rw [e2]
        by_cases hc : (∀ q, q ∈ l → wideM fl q = false) ∧ (out ++ textM fl p ++ l.flatMap (textM fl)).length ≤ 2000
        · rw [if_pos hc] at ih
          rw [if_pos ⟨fun q hq => by
            rcases List.mem_cons.1 hq with rfl | hq
            · exact hw'
            · exact hc.1 q hq, hc.2⟩]
          exact ih
        · rw [if_neg hc] at ih
          rw [if_neg (fun h => hc ⟨fun q hq => h.1 q (List.mem_cons_of_mem _ hq), h.2⟩)]
          exact ih
end Go.Proofs.Ytoandhhkmkgmaaa
