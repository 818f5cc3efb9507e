/- Some of the proof's texts, merged; each one's own words stand ahead of it. -/
import Derived.Test.YtoandhhkmkgmaaaGreatDoorBase
import Derived.Lib.Replace
import Derived.Lib.SlTrimSet
import Derived.Test.YtoandhhkmkgmaaaGreatDoorShelf
import Derived.BigRegion
import Derived.Deep.Cut
import Derived.Deep.RegionHeld3
import Derived.Lib.Hide
import Derived.Lib.Walk
import Derived.WalkKit
import Derived.Outline
import Derived.Deep.RegionWith
/- Lines, in plain Lean: signs that are none, blanks, what is said aside, what is shown. No program in sight. -/
namespace Go.Proofs.YtoandhhkmkgmaaaGreatDoor

def blankB (c : UInt8) : Bool := c == 32 || c == 9
def badB (c : UInt8) : Bool := decide (126 < c) || (decide (c < 32) && c != 9 && c != 10)
def shownL (s : List UInt8) : List UInt8 := s.flatMap fun c => if c = 35 then [92, 35] else [c]
def unescL : List UInt8 → List UInt8
  | [] => []
  | 92 :: 35 :: t => 35 :: unescL t
  | c :: t => c :: unescL t
def trimLL (s : List UInt8) : List UInt8 := s.dropWhile blankB
def trimRL (s : List UInt8) : List UInt8 := (s.reverse.dropWhile blankB).reverse
def trimBL (s : List UInt8) : List UInt8 := trimRL (trimLL s)
theorem blanks_eq (c : UInt8) : ([32, 9] : List UInt8).contains c = blankB c := by
  rw [Bool.eq_iff_iff]
  simp [blankB]
theorem trimLeft_eq (s : List UInt8) : Lib.trimLeftS s [32, 9] = trimLL s := by
  unfold Lib.trimLeftS trimLL
  congr 1
  funext c
  exact blanks_eq c
theorem trimRight_eq (s : List UInt8) : Lib.trimRightS s [32, 9] = trimRL s := by
  unfold Lib.trimRightS trimRL
  congr 3
  funext c
  exact blanks_eq c
/-! ### Replaced -/
theorem rk_skip {old new : List UInt8} (f : Nat) {c : UInt8} {t : List UInt8} (h : old.isPrefixOf (c :: t) = false) : Lib.replaceK old new (f + 1) (c :: t) = c :: Lib.replaceK old new (f + 1) t := by
  have hi : Lib.index (c :: t) old = if Lib.index t old == -1 then -1 else Lib.index t old + 1 := by rw [Lib.index, h]; rfl
  rw [Lib.replaceK, Lib.replaceK, hi]
  have hge := Lib.index_ge t old
  by_cases hn : Lib.index t old = -1
  · rw [hn]; rfl
  · have h1 : (Lib.index t old == -1) = false := by simp [hn]
    have h2 : (Lib.index t old + 1 == -1) = false := by simp; omega
    rw [h1]
    simp only [Bool.false_eq_true, if_false]
    rw [h2]
    simp only [Bool.false_eq_true, if_false]
    have e : (Lib.index t old + 1).toNat = (Lib.index t old).toNat + 1 := by omega
    rw [e, List.take_succ_cons, show (Lib.index t old).toNat + 1 + old.length = ((Lib.index t old).toNat + old.length) + 1 by omega, List.drop_succ_cons]
    rfl
theorem rk_hit {old new : List UInt8} (f : Nat) {c : UInt8} {t : List UInt8} (h : old.isPrefixOf (c :: t) = true) : Lib.replaceK old new (f + 1) (c :: t) = new ++ Lib.replaceK old new f ((c :: t).drop old.length) := by
  have hi : Lib.index (c :: t) old = 0 := by rw [Lib.index, h]; rfl
  rw [Lib.replaceK, hi]
  simp
theorem rk_nil {old new : List UInt8} (f : Nat) (h : old ≠ []) : Lib.replaceK old new f [] = [] := by
  cases f with
  | zero => rfl
  | succ f =>
    have hi : Lib.index [] old = -1 := by
      rw [Lib.index]
      cases old with
      | nil => exact absurd rfl h
      | cons a l => rfl
    rw [Lib.replaceK, hi]
    rfl
theorem rk_count (old new : List UInt8) : ∀ (f : Nat) (s : List UInt8), Lib.replaceK old new (Lib.countFrom old f s) s = Lib.replaceK old new f s
  | 0, _ => rfl
  | f + 1, s => by
    rw [Lib.countFrom]
    by_cases h : (Lib.index s old == -1) = true
    · rw [if_pos h, Lib.replaceK, Lib.replaceK, if_pos h]
    · rw [if_neg h, Nat.add_comm 1, Lib.replaceK, Lib.replaceK, if_neg h, if_neg h, rk_count old new f]
theorem replaceAll_eq {s old new : List UInt8} (h : old ≠ new) : Lib.replaceAll s old new = Lib.replaceK old new (s.length + 1) s := by
  have hb : (old == new) = false := beq_eq_false_iff_ne.2 h
  unfold Lib.replaceAll Lib.replace
  rw [hb]
  simp only [Bool.false_eq_true, if_false]
  have e : Lib.replaceNum s old (-1) = Lib.countFrom old (s.length + 1) s := by unfold Lib.replaceNum Lib.count; rw [if_pos (.inl (by decide))]
  rw [e, rk_count]
theorem rk_shown : ∀ (s : List UInt8) (f : Nat), s.length < f → Lib.replaceK [35] [92, 35] f s = shownL s
  | [], f, _ => rk_nil f (by simp)
  | c :: t, 0, h => by omega
  | c :: t, f + 1, h => by
    simp only [List.length_cons] at h
    by_cases hc : c = 35
    · subst hc
      rw [rk_hit f (by simp [List.isPrefixOf]), show ([35] : List UInt8).length = 1 from rfl, List.drop_succ_cons, List.drop_zero, rk_shown t f (by omega)]
      simp [shownL]
    · have hp : ([35] : List UInt8).isPrefixOf (c :: t) = false := by
        have : ((35 : UInt8) == c) = false := beq_eq_false_iff_ne.2 (fun e => hc e.symm)
        simp [List.isPrefixOf, this]
      rw [rk_skip f hp, rk_shown t (f + 1) (by omega)]
      simp [shownL, hc]
theorem unescL_hit (t : List UInt8) : unescL (92 :: 35 :: t) = 35 :: unescL t := by rw [unescL]
theorem unescL_skip {c : UInt8} {t : List UInt8} (h : ¬ (c = 92 ∧ t.head? = some 35)) : unescL (c :: t) = c :: unescL t := by
  rw [unescL]
  intro t' h1 h2
  exact h ⟨h1, by rw [h2]; rfl⟩
theorem rk_unesc : ∀ (n : Nat) (s : List UInt8) (f : Nat), s.length ≤ n → s.length < f → Lib.replaceK [92, 35] [35] f s = unescL s := by
  intro n
  induction n with
  | zero =>
    intro s f hn hf
    obtain rfl : s = [] := List.length_eq_zero_iff.1 (by omega)
    rw [rk_nil f (by simp), unescL]
  | succ n ih =>
    intro s f hn hf
    cases s with
    | nil => rw [rk_nil f (by simp), unescL]
    | cons c t =>
      cases f with
      | zero => simp at hf
      | succ f =>
        simp only [List.length_cons] at hn hf
        by_cases h : c = 92 ∧ t.head? = some 35
        · obtain ⟨rfl, ht⟩ := h
          cases t with
          | nil => cases ht
          | cons d t' =>
            simp at ht
            subst ht
            rw [rk_hit f (by simp [List.isPrefixOf]), show ([92, 35] : List UInt8).length = 2 from rfl]
            simp only [List.drop_succ_cons, List.drop_zero, List.length_cons] at hn hf ⊢
            rw [ih t' f (by omega) (by omega), unescL_hit]
            rfl
        · have hp : ([92, 35] : List UInt8).isPrefixOf (c :: t) = false := by
            rw [Bool.eq_false_iff]
            intro hp
            cases t with
            | nil => simp [List.isPrefixOf] at hp
            | cons d t' =>
              simp [List.isPrefixOf] at hp
              exact h ⟨hp.1.symm, by rw [← hp.2]; rfl⟩
          rw [rk_skip f hp, ih t (f + 1) (by omega) (by omega), unescL_skip h]
theorem replace_shown (s : List UInt8) : Lib.replaceAll s [35] [92, 35] = shownL s := by
  rw [replaceAll_eq (by simp), rk_shown _ _ (Nat.lt_succ_self _)]
theorem replace_unesc (s : List UInt8) : Lib.replaceAll s [92, 35] [35] = unescL s := by
  rw [replaceAll_eq (by simp), rk_unesc _ _ _ (Nat.le_refl _) (Nat.lt_succ_self _)]
theorem shownL_snoc (s : List UInt8) (c : UInt8) : shownL (s ++ [c]) = shownL s ++ (if c = 35 then [92, 35] else [c]) := by unfold shownL; rw [List.flatMap_append]; simp
theorem shownL_len (s : List UInt8) : (shownL s).length ≤ 2 * s.length := by
  induction s with
  | nil => exact Nat.le_refl _
  | cons c t ih =>
    have e : shownL (c :: t) = (if c = 35 then [92, 35] else [c]) ++ shownL t := rfl
    have l : (if c = 35 then [92, 35] else [c] : List UInt8).length ≤ 2 := by split <;> simp
    rw [e, List.length_append, List.length_cons]
    omega
/-! ### Said aside -/
/-- One stops here: the sign behind no backslash. -/
def stopA (s : List UInt8) (i : Nat) : Bool := (s[i]? == some 35) && (i == 0 || s[i - 1]? != some 92)
def takeA (p : Option UInt8) : List UInt8 → List UInt8
  | [] => []
  | c :: t => if c = 35 ∧ p ≠ some 92 then [] else c :: takeA (some c) t
theorem takeA_eq : ∀ (s : List UInt8) (p : Option UInt8) (i : Nat), i ≤ s.length → (∀ j, j < i → ¬ (s[j]? = some 35 ∧ (if j = 0 then p else s[j - 1]?) ≠ some 92)) → (i = s.length ∨ (s[i]? = some 35 ∧ (if i = 0 then p else s[i - 1]?) ≠ some 92)) → takeA p s = s.take i
  | [], p, i, _, _, _ => by rw [takeA]; simp
  | c :: t, p, i, hi, h1, h2 => by
    rw [takeA]
    cases i with
    | zero =>
      rcases h2 with h2 | h2
      · simp at h2
      · rw [if_pos]
        · rfl
        · simpa using h2
    | succ i =>
      have h0 := h1 0 (by omega)
      rw [if_neg (by simpa using h0), List.take_succ_cons]
      congr 1
      refine takeA_eq t (some c) i (by simp at hi; omega) (fun j hj hh => ?_) ?_
      · refine h1 (j + 1) (by omega) ?_
        rw [if_neg (by omega)]
        refine ⟨by simpa using hh.1, ?_⟩
        cases j with
        | zero => simpa using hh.2
        | succ j => simpa using hh.2
      · rcases h2 with h2 | h2
        · left; simp at h2; omega
        · right
          rw [if_neg (by omega)] at h2
          refine ⟨by simpa using h2.1, ?_⟩
          cases i with
          | zero => simpa using h2.2
          | succ i => simpa using h2.2
/-- What is left of a line. -/
def asideL (s : List UInt8) : List UInt8 := trimRL (unescL (takeA none s))
theorem unescL_app : ∀ (n : Nat) (u v : List UInt8), u.length ≤ n → ¬ (u.getLast? = some 92 ∧ v.head? = some 35) → unescL (u ++ v) = unescL u ++ unescL v := by
  intro n
  induction n with
  | zero =>
    intro u v hn _
    obtain rfl : u = [] := List.length_eq_zero_iff.1 (by omega)
    rfl
  | succ n ih =>
    intro u v hn h
    cases u with
    | nil => rfl
    | cons c t =>
      simp only [List.length_cons] at hn
      by_cases hc : c = 92 ∧ t.head? = some 35
      · obtain ⟨rfl, ht⟩ := hc
        cases t with
        | nil => cases ht
        | cons d t' =>
          simp at ht
          subst ht
          rw [List.cons_append, List.cons_append, unescL_hit, unescL_hit, List.cons_append]
          congr 1
          refine ih t' v (by simp at hn; omega) (fun hh => ?_)
          cases t' with
          | nil => simp at hh
          | cons x y => exact h ⟨by simpa using hh.1, hh.2⟩
      · have hc2 : ¬ (c = 92 ∧ (t ++ v).head? = some 35) := by
          intro hh
          cases t with
          | nil => exact h ⟨by simp [hh.1], by simpa using hh.2⟩
          | cons d t' => exact hc ⟨hh.1, by simpa using hh.2⟩
        rw [List.cons_append, unescL_skip hc2, unescL_skip hc, List.cons_append]
        congr 1
        refine ih t v (by omega) (fun hh => ?_)
        cases t with
        | nil => simp at hh
        | cons x y => exact h ⟨by simpa using hh.1, hh.2⟩
/-- One more sign. -/
theorem unescL_snoc (u : List UInt8) (c : UInt8) : unescL (u ++ [c]) = if c = 35 ∧ u.getLast? = some 92 then (unescL u).dropLast ++ [35] else unescL u ++ [c] := by
  have one : ∀ c : UInt8, unescL [c] = [c] := fun c => by rw [unescL_skip (by simp)]; rw [unescL]
  by_cases h : c = 35 ∧ u.getLast? = some 92
  · obtain ⟨rfl, hu⟩ := h
    obtain ⟨v, rfl⟩ : ∃ v, u = v ++ [92] := by
      have hne : u ≠ [] := fun e => by rw [e] at hu; cases hu
      refine ⟨u.dropLast, ?_⟩
      have := List.dropLast_concat_getLast hne
      rw [List.getLast?_eq_some_getLast hne] at hu
      injection hu with hu
      rw [hu] at this
      exact this.symm
    rw [if_pos ⟨rfl, hu⟩]
    rw [List.append_assoc, unescL_app _ v _ (Nat.le_refl _) (by simp), unescL_app _ v [92] (Nat.le_refl _) (by simp), one]
    have : unescL ([92] ++ [35]) = [35] := by show unescL [92, 35] = _; rw [unescL_hit, unescL]
    rw [this]
    simp
  · rw [if_neg h, unescL_app _ u [c] (Nat.le_refl _) (fun hh => h ⟨by simpa using hh.2, hh.1⟩), one]
end Go.Proofs.YtoandhhkmkgmaaaGreatDoor
/- Contracts: line.bad, line.shown; the reference's blank, Shown, Trimmed. -/
namespace Go.Proofs.YtoandhhkmkgmaaaGreatDoor
open Go.RowKit

/-- A text by its bytes. -/
structure StrIsL (b : ByteArray) (s : List UInt8) : Prop where
  data : b.data.toList = s
  size : b.size = s.length
theorem strIsL (s : List UInt8) : StrIsL ⟨s.toArray⟩ s := ⟨rfl, rfl⟩
theorem StrIsL.at_ {b : ByteArray} {s : List UInt8} (h : StrIsL b s) {k : Nat} (hk : k < b.size) : s[k]? = some b[k] := by
  rw [← h.data]
  have h1 : k < b.data.size := hk
  rw [Array.getElem?_toList, Array.getElem?_eq_getElem h1]
  rfl
theorem neK {c n : UInt8} (h : c ≠ n) : (((c.toNat : Nat) : Int) != ((n.toNat : Nat) : Int)) = true := by
  have : c.toNat ≠ n.toNat := fun e => h (UInt8.toNat_inj.1 e)
  simp
  omega
theorem eqK {c n : UInt8} (h : c ≠ n) : (((c.toNat : Nat) : Int) == ((n.toNat : Nat) : Int)) = false := by
  have : c.toNat ≠ n.toNat := fun e => h (UInt8.toNat_inj.1 e)
  simp
  omega
theorem measL {q m : Nat} (h : q < m) : m - (intOf (.int .i64 ((q : Int) + 1))).toNat < m - (intOf (.int .i64 (q : Int))).toNat := by
  simp only [intOf]
  omega
theorem take_snocL {α : Type} {s : List α} {i : Nat} {c : α} (h : s[i]? = some c) : s.take (i + 1) = s.take i ++ [c] := by rw [List.take_add_one, h]; rfl
theorem cat_bytesL (x y : List UInt8) : (⟨x.toArray⟩ : ByteArray) ++ ⟨y.toArray⟩ = ⟨(x ++ y).toArray⟩ := by
  apply ByteArray.ext
  simp
theorem ext_one {b : ByteArray} {s : List UInt8} (h : StrIsL b s) {i : Nat} {c : UInt8} (hc : s[i]? = some c) : b.extract i (i + 1) = ⟨#[c]⟩ := by
  have h1 := Lib.extract_data b i (i + 1)
  rw [h.data] at h1
  have h2 : (s.drop i).take (i + 1 - i) = [c] := by
    obtain ⟨hi, hx⟩ := List.getElem?_eq_some_iff.1 hc
    rw [List.drop_eq_getElem_cons hi, hx, show i + 1 - i = 1 by omega]
    rfl
  rw [h2] at h1
  calc b.extract i (i + 1) = ⟨(b.extract i (i + 1)).data.toList.toArray⟩ := rfl
    _ = _ := by rw [h1]
set_option maxRecDepth 100000 in
theorem rBlank_any (c : UInt8) (w : World) : Calls Tryz.prog 153 #[.int .u8 (c.toNat : Int)] w fun e w' => e = .returned (.bool (blankB c)) ∧ w = w' := by
  by_cases h32 : c = 32
  · subst h32
    go_enter Tryz.func153, Tryz.ntmps153
    go_wp2_with fail
    go_ret
    exact ⟨rfl, rfl⟩
  · have k32 : ((c.toNat : Int) == 32) = false := eqK h32
    by_cases h9 : c = 9
    · subst h9
      go_enter Tryz.func153, Tryz.ntmps153
      go_wp2_with fail
      go_ret
      exact ⟨rfl, rfl⟩
    · have k9 : ((c.toNat : Int) == 9) = false := eqK h9
      have HB : Hid (blankB c = false) := Lib.hid (by unfold blankB; simp [h32, h9])
      clear h32 h9
      go_enter Tryz.func153, Tryz.ntmps153
      go_wp2_with fail
      go_ret
      exact ⟨by rw [HB.out]; rfl, rfl⟩
theorem rBlank_is (c : UInt8) (w : World) {v : Bool} (h : blankB c = v) : Calls Tryz.prog 153 #[.int .u8 (c.toNat : Int)] w fun e w' => e = .returned (.bool v) ∧ w = w' := by
  subst h
  exact rBlank_any c w
theorem badB_cases (c : UInt8) : (badB c = true ∧ 126 < c.toNat) ∨ (badB c = true ∧ c.toNat ≤ 126 ∧ c.toNat < 32 ∧ c ≠ 9 ∧ c ≠ 10) ∨ (badB c = false ∧ c = 9) ∨ (badB c = false ∧ c = 10) ∨ (badB c = false ∧ 32 ≤ c.toNat ∧ c.toNat ≤ 126) := by
  have key : ∀ n : Fin 256, (badB (UInt8.ofNat n.val) = true ∧ 126 < n.val) ∨ (badB (UInt8.ofNat n.val) = true ∧ n.val ≤ 126 ∧ n.val < 32 ∧ UInt8.ofNat n.val ≠ 9 ∧ UInt8.ofNat n.val ≠ 10) ∨ (badB (UInt8.ofNat n.val) = false ∧ UInt8.ofNat n.val = 9) ∨ (badB (UInt8.ofNat n.val) = false ∧ UInt8.ofNat n.val = 10) ∨ (badB (UInt8.ofNat n.val) = false ∧ 32 ≤ n.val ∧ n.val ≤ 126) := by decide +kernel
  have h := key ⟨c.toNat, c.toNat_lt⟩
  have e : UInt8.ofNat c.toNat = c := by simp
  simp only [e] at h
  exact h
set_option maxRecDepth 100000 in
set_option maxHeartbeats 1000000 in
theorem lnBad_any (s : List UInt8) (hl : s.length ≤ 9223372036854775807) (w : World) : Calls Tryz.prog 167 #[.string ⟨s.toArray⟩] w fun e w' => e = .returned (.bool (s.any badB)) ∧ w = w' := by
  have HS := Lib.hid (strIsL s)
  generalize (⟨s.toArray⟩ : ByteArray) = b at *
  have hsz : b.size = s.length := HS.out.size
  have HSZ := Lib.hid hsz
  have hbs : b.size ≤ 9223372036854775807 := by omega
  clear hsz hl
  go_enter Tryz.func167, Tryz.ntmps167
  go_wp2_with fail
  go_loop [7] (fun x => ∃ i : Nat, x = .int .i64 (i : Int) ∧ i ≤ b.size ∧ Hid ((s.take i).any badB = false)) (fun x => b.size - (intOf x).toNat)
  case atStart => exact ⟨0, rfl, by omega, Lib.hid rfl⟩
  case round =>
    obtain ⟨i, rfl, hi, HA⟩ := hrel
    by_cases hlt : i < b.size
    · have HC := Lib.hid (HS.out.at_ hlt)
      have i0 : (i : Int) < (b.size : Int) := by omega
      have hcs := badB_cases b[i]
      have HT := Lib.hid (take_snocL (HS.out.at_ hlt))
      rcases hcs with ⟨hb, h1⟩ | ⟨hb, h1, h2, h3, h4⟩ | ⟨hb, h1⟩ | ⟨hb, h1⟩ | ⟨hb, h1, h2⟩
      · have HY : Hid (s.any badB = true) := Lib.hid (List.any_eq_true.2 ⟨_, List.mem_of_getElem? HC.out, hb⟩)
        clear hb
        go_wp2_with fail
        go_ret
        exact ⟨by rw [HY.out]; rfl, rfl⟩
      · have HY : Hid (s.any badB = true) := Lib.hid (List.any_eq_true.2 ⟨_, List.mem_of_getElem? HC.out, hb⟩)
        have k9 : ((b[i].toNat : Int) != 9) = true := neK h3
        have k10 : ((b[i].toNat : Int) != 10) = true := neK h4
        clear hb h3 h4
        go_wp2_with fail
        go_ret
        exact ⟨by rw [HY.out]; rfl, rfl⟩
      all_goals
        have HA2 : Hid ((s.take (i + 1)).any badB = false) := Lib.hid (by rw [HT.out, List.any_append, HA.out]; simp [hb])
        clear hb
      · have k9 : ((b[i].toNat : Int) != 9) = false := by rw [h1]; rfl
        have l1 : ¬ 126 < b[i].toNat := by rw [h1]; decide
        have l2 : b[i].toNat < 32 := by rw [h1]; decide
        clear h1
        go_wp2_with fail
        exact ⟨⟨i + 1, rfl, by omega, HA2⟩, measL hlt⟩
      · have k9 : ((b[i].toNat : Int) != 9) = true := by rw [h1]; rfl
        have k10 : ((b[i].toNat : Int) != 10) = false := by rw [h1]; rfl
        have l1 : ¬ 126 < b[i].toNat := by rw [h1]; decide
        have l2 : b[i].toNat < 32 := by rw [h1]; decide
        clear h1
        go_wp2_with fail
        exact ⟨⟨i + 1, rfl, by omega, HA2⟩, measL hlt⟩
      · have l1 : ¬ 126 < b[i].toNat := by omega
        have l2 : ¬ b[i].toNat < 32 := by omega
        clear h1 h2
        go_wp2_with fail
        exact ⟨⟨i + 1, rfl, by omega, HA2⟩, measL hlt⟩
    · obtain rfl : i = b.size := by omega
      have HY : Hid (s.any badB = false) := Lib.hid (by have h := HA.out; rwa [List.take_of_length_le (by rw [HSZ.out]; exact Nat.le_refl _)] at h)
      go_wp2_with fail
      go_ret
      exact ⟨by rw [HY.out]; rfl, rfl⟩
end Go.Proofs.YtoandhhkmkgmaaaGreatDoor
/- Contracts: strings.ReplaceAll, Trim at blanks; line.shown, line.cut; the reference's Trimmed. -/
namespace Go.Proofs.YtoandhhkmkgmaaaGreatDoor
open Go.RowKit

theorem below_newL {a w w' : World} (h : Below a.heap.size a w) (k : Below w.heap.size w w') : Below a.heap.size a w' := h.trans (k.mono h.size)
theorem countFrom_le (sub : List UInt8) : ∀ (f : Nat) (s : List UInt8), Lib.countFrom sub f s ≤ f
  | 0, _ => Nat.le_refl _
  | f + 1, s => by
    rw [Lib.countFrom]
    have := countFrom_le sub f (s.drop ((Lib.index s sub).toNat + sub.length))
    split <;> omega
theorem count_le (s sub : List UInt8) : Lib.count s sub ≤ s.length + 1 := countFrom_le sub _ s
theorem sReplace_any (s old new : List UInt8) (m : Int) (w : World) (hl : s.length ≤ 1048576) (ho : 1 ≤ old.length) (hn : new.length ≤ 4) (hm : w.cell? ⟨1, 0, none⟩ = some (.int .i64 m)) :
    Calls Tryz.prog 220 #[.string ⟨s.toArray⟩, .string ⟨old.toArray⟩, .string ⟨new.toArray⟩] w fun e w' => e = .returned (.string ⟨(Lib.replaceAll s old new).toArray⟩) ∧ Below w.heap.size w w' := by
  have hc : Lib.countB ⟨s.toArray⟩ ⟨old.toArray⟩ ≤ s.length + 1 := count_le s old
  have hmul : Lib.countB ⟨s.toArray⟩ ⟨old.toArray⟩ * new.length ≤ (s.length + 1) * 4 := Nat.mul_le_mul hc hn
  exact Tryz.strings_ReplaceAll ⟨s.toArray⟩ ⟨old.toArray⟩ ⟨new.toArray⟩ m w (show s.length < _ by omega) hm ho (show s.length + Lib.countB ⟨s.toArray⟩ ⟨old.toArray⟩ * new.length ≤ _ by omega)
theorem blanks_ascii : ∀ (j : Nat) (b : UInt8), (⟨#[32, 9]⟩ : ByteArray).data.toList[j]? = some b → b.toNat < 128 := by
  intro j b h
  match j, h with
  | 0, h => simp at h; subst h; decide
  | 1, h => simp at h; subst h; decide
theorem sTrimL_any (s : List UInt8) (w : World) : Calls Tryz.prog 203 #[.string ⟨s.toArray⟩, .string ⟨#[32, 9]⟩] w fun e w' => e = .returned (.string ⟨(trimLL s).toArray⟩) ∧ Below w.heap.size w w' := by
  have h := Any.strings_TrimLeft_laid Tryz.lays161 (by kernel_rfl) ⟨s.toArray⟩ ⟨#[32, 9]⟩ w (by decide) blanks_ascii
  rw [show (⟨s.toArray⟩ : ByteArray).data.toList = s from rfl, show (⟨#[32, 9]⟩ : ByteArray).data.toList = [32, 9] from rfl, trimLeft_eq] at h
  exact h
theorem sTrimR_any (s : List UInt8) (hl : s.length ≤ 9223372036854775807) (w : World) : Calls Tryz.prog 219 #[.string ⟨s.toArray⟩, .string ⟨#[32, 9]⟩] w fun e w' => e = .returned (.string ⟨(trimRL s).toArray⟩) ∧ Below w.heap.size w w' := by
  have h := Any.strings_TrimRight_laid Tryz.lays162 (by kernel_rfl) ⟨s.toArray⟩ ⟨#[32, 9]⟩ w hl (by decide) blanks_ascii
  rw [show (⟨s.toArray⟩ : ByteArray).data.toList = s from rfl, show (⟨#[32, 9]⟩ : ByteArray).data.toList = [32, 9] from rfl, trimRight_eq] at h
  exact h
theorem trimRL_cons (c : UInt8) (t : List UInt8) : trimRL (c :: t) = if (trimRL t).isEmpty then (if blankB c then [] else [c]) else c :: trimRL t := by
  unfold trimRL
  rw [List.reverse_cons, List.dropWhile_append, List.isEmpty_reverse]
  split
  · cases h : blankB c <;> simp [List.dropWhile, h]
  · simp
theorem trim_comm : ∀ s : List UInt8, trimLL (trimRL s) = trimRL (trimLL s)
  | [] => rfl
  | c :: t => by
    have ih := trim_comm t
    have hl : trimLL (c :: t) = if blankB c then trimLL t else c :: t := by unfold trimLL; rw [List.dropWhile_cons]
    rw [trimRL_cons, hl]
    cases hb : blankB c with
    | true =>
      simp only [if_true]
      rw [← ih]
      cases he : (trimRL t).isEmpty with
      | true =>
        rw [List.isEmpty_iff.1 he]
        rfl
      | false =>
        simp only [Bool.false_eq_true, if_false]
        unfold trimLL
        rw [List.dropWhile_cons, hb]
        rfl
    | false =>
      simp only [Bool.false_eq_true, if_false]
      rw [trimRL_cons, hb]
      cases he : (trimRL t).isEmpty with
      | true =>
        simp only [if_true, Bool.false_eq_true, if_false]
        unfold trimLL
        rw [List.dropWhile_cons, hb]
        rfl
      | false =>
        simp only [Bool.false_eq_true, if_false]
        unfold trimLL
        rw [List.dropWhile_cons, hb]
        rfl
theorem sTrim_any (s : List UInt8) (hl : s.length ≤ 9223372036854775807) (w : World) : Calls Tryz.prog 140 #[.string ⟨s.toArray⟩, .string ⟨#[32, 9]⟩] w fun e w' => e = .returned (.string ⟨(trimBL s).toArray⟩) ∧ Below w.heap.size w w' := by
  have h := Any.strings_Trim_laid Tryz.lays160 (by kernel_rfl) ⟨s.toArray⟩ ⟨#[32, 9]⟩ w hl (by decide) blanks_ascii
  rw [show (⟨s.toArray⟩ : ByteArray).data.toList = s from rfl, show (⟨#[32, 9]⟩ : ByteArray).data.toList = [32, 9] from rfl] at h
  have e : Lib.trimS s [32, 9] = trimBL s := by
    unfold Lib.trimS trimBL
    rw [trimRight_eq, trimLeft_eq, trim_comm]
  rw [e] at h
  exact h
end Go.Proofs.YtoandhhkmkgmaaaGreatDoor
/- Contracts: line.cut; the reference's Trimmed, aside. -/
namespace Go.Proofs.YtoandhhkmkgmaaaGreatDoor
open Go.RowKit

theorem ext_takeL {b : ByteArray} {s : List UInt8} (h : StrIsL b s) (i : Nat) : b.extract 0 i = ⟨(s.take i).toArray⟩ := by
  have h1 := Lib.extract_data b 0 i
  rw [h.data] at h1
  simp only [List.drop_zero, Nat.sub_zero] at h1
  calc b.extract 0 i = ⟨(b.extract 0 i).data.toList.toArray⟩ := rfl
    _ = _ := by rw [h1]
theorem ext_dropL {b : ByteArray} {s : List UInt8} (h : StrIsL b s) (i : Nat) : b.extract i b.size = ⟨(s.drop i).toArray⟩ := by
  have h1 := Lib.extract_data b i b.size
  rw [h.data, h.size] at h1
  rw [List.take_of_length_le (by rw [List.length_drop]; omega)] at h1
  rw [← h.size] at h1
  calc b.extract i b.size = ⟨(b.extract i b.size).data.toList.toArray⟩ := rfl
    _ = _ := by rw [h1]
/-- No stop ahead of i. -/
def NoStop (s : List UInt8) (i : Nat) : Prop := ∀ j, j < i → ¬ (s[j]? = some 35 ∧ (if j = 0 then (none : Option UInt8) else s[j - 1]?) ≠ some 92)
theorem NoStop.succ {s : List UInt8} {i : Nat} (h : NoStop s i) (hi : ¬ (s[i]? = some 35 ∧ (if i = 0 then (none : Option UInt8) else s[i - 1]?) ≠ some 92)) : NoStop s (i + 1) := fun j hj => by
  by_cases hji : j = i
  · subst hji; exact hi
  · exact h j (by omega)
theorem aside_of {s : List UInt8} {i : Nat} (h : NoStop s i) (hi : i ≤ s.length) (he : i = s.length ∨ (s[i]? = some 35 ∧ (if i = 0 then (none : Option UInt8) else s[i - 1]?) ≠ some 92)) : asideL s = trimRL (unescL (s.take i)) := by
  unfold asideL
  rw [takeA_eq s none i hi h he]
theorem unescL_len : ∀ (n : Nat) (s : List UInt8), s.length ≤ n → (unescL s).length ≤ s.length := by
  intro n
  induction n with
  | zero =>
    intro s hn
    obtain rfl : s = [] := List.length_eq_zero_iff.1 (by omega)
    simp [unescL]
  | succ n ih =>
    intro s hn
    cases s with
    | nil => simp [unescL]
    | cons c t =>
      simp only [List.length_cons] at hn ⊢
      by_cases h : c = 92 ∧ t.head? = some 35
      · obtain ⟨rfl, ht⟩ := h
        cases t with
        | nil => cases ht
        | cons d t' =>
          simp at ht
          subst ht
          rw [unescL_hit]
          have := ih t' (by simp at hn; omega)
          simp
          omega
      · rw [unescL_skip h]
        have := ih t (by omega)
        simp
        omega
set_option maxRecDepth 100000 in
set_option maxHeartbeats 2000000 in
theorem lnCut_any (s : List UInt8) (m : Int) (w : World) (hl : s.length ≤ 1048576) (hm : w.cell? ⟨1, 0, none⟩ = some (.int .i64 m)) :
    Calls Tryz.prog 204 #[.string ⟨s.toArray⟩] w fun e w' => e = .returned (.string ⟨(asideL s).toArray⟩) ∧ Below w.heap.size w w' := by
  have HM := Lib.hid hm
  have HRT := Lib.hid (fun (i : Nat) => sReplace_any (s.take i) [92, 35] [35] m w (by rw [List.length_take]; omega) (by decide) (by decide) hm)
  have HTT := Lib.hid (fun (i : Nat) (W : World) => sTrimR_any (unescL (s.take i)) (by have := unescL_len _ (s.take i) (Nat.le_refl _); rw [List.length_take] at this; omega) W)
  have HS := Lib.hid (strIsL s)
  generalize (⟨s.toArray⟩ : ByteArray) = b at *
  have hsz : b.size = s.length := HS.out.size
  have HSZ := Lib.hid hsz
  have hbs : b.size ≤ 1048576 := by omega
  clear hsz hl hm
  go_enter Tryz.func204, Tryz.ntmps204
  go_wp2_with fail
  go_loop [0, 6] (fun y x => ∃ i : Nat, y = .string b ∧ x = .int .i64 (i : Int) ∧ i ≤ b.size ∧ Hid (NoStop s i)) (fun _ x => b.size - (intOf x).toNat)
  case atStart => exact ⟨0, rfl, rfl, by omega, Lib.hid (fun j hj => by omega)⟩
  case round =>
    obtain ⟨i, rfl, rfl, hi, HNS⟩ := hrel
    by_cases hlt : i < b.size
    · have HC := Lib.hid (HS.out.at_ hlt)
      have i0 : (i : Int) < (b.size : Int) := by omega
      by_cases h35 : b[i] = 35
      · have k35 : ((b[i].toNat : Int) == 35) = true := by rw [h35]; rfl
        have HC2 : Hid (s[i]? = some 35) := Lib.hid (by rw [HC.out, h35])
        by_cases h0 : i = 0
        · subst h0
          have HAS := Lib.hid (aside_of HNS.out (by rw [← HSZ.out]; omega) (.inr ⟨HC2.out, by simp⟩))
          have hsg := ext_takeL HS.out 0
          have HR0 := Lib.hid (HRT.out 0)
          have HT0 := Lib.hid (HTT.out 0)
          rw [replace_unesc, show (⟨(s.take 0).toArray⟩ : ByteArray) = ByteArray.empty from rfl] at HR0
          clear h35 HRT HTT
          go_wp2_with fail
          refine HR0.out.mono ?_
          rintro e w2 ⟨rfl, hb2⟩
          have HB2 := Lib.hid hb2
          clear hb2
          go_wp2_with fail
          refine (HT0.out _).mono ?_
          rintro e w3 ⟨rfl, hb3⟩
          have HB3 := Lib.hid (below_newL HB2.out hb3)
          clear hb3
          go_wp2_with fail
          go_ret
          exact ⟨by rw [HAS.out]; rfl, HB3.out⟩
        · have hi1 : i - 1 < b.size := by omega
          have HP := Lib.hid (HS.out.at_ hi1)
          have e1 : (i : Int) - 1 = ((i - 1 : Nat) : Int) := by omega
          have k0 : ((i : Int) == 0) = false := by simp; omega
          by_cases h92 : b[i - 1] = 92
          · have k92 : ((b[i - 1].toNat : Int) != 92) = false := by rw [h92]; rfl
            have HNS2 := Lib.hid (HNS.out.succ (fun hh => hh.2 (by rw [if_neg h0, HP.out, h92])))
            have HI1 := Lib.hid (show i + 1 ≤ b.size from hlt)
            have HI2 := Lib.hid (measL hlt)
            clear h35 h92
            go_wp2_with fail
            exact ⟨⟨i + 1, rfl, rfl, HI1.out, HNS2⟩, HI2.out⟩
          · have k92 : ((b[i - 1].toNat : Int) != 92) = true := neK h92
            have HAS := Lib.hid (aside_of HNS.out (by rw [← HSZ.out]; omega) (.inr ⟨HC2.out, by rw [if_neg h0, HP.out]; exact fun e => h92 (by injection e)⟩))
            have hsg := ext_takeL HS.out i
            have HR0 := Lib.hid (HRT.out i)
            have HT0 := Lib.hid (HTT.out i)
            rw [replace_unesc] at HR0
            clear h35 h92 HRT HTT
            generalize s.take i = u at *
            go_wp2_with fail
            refine HR0.out.mono ?_
            rintro e w2 ⟨rfl, hb2⟩
            have HB2 := Lib.hid hb2
            clear hb2
            go_wp2_with fail
            refine (HT0.out _).mono ?_
            rintro e w3 ⟨rfl, hb3⟩
            have HB3 := Lib.hid (below_newL HB2.out hb3)
            clear hb3
            go_wp2_with fail
            go_ret
            exact ⟨by rw [HAS.out]; rfl, HB3.out⟩
      · have k35 : ((b[i].toNat : Int) == 35) = false := eqK h35
        have HNS2 := Lib.hid (HNS.out.succ (fun hh => h35 (by have := hh.1; rw [HC.out] at this; injection this)))
        clear h35
        go_wp2_with fail
        exact ⟨⟨i + 1, rfl, rfl, by omega, HNS2⟩, measL hlt⟩
    · obtain rfl : i = b.size := by omega
      have HAS := Lib.hid (aside_of HNS.out (by rw [HSZ.out]; exact Nat.le_refl _) (.inl HSZ.out))
      have HR0 := Lib.hid (HRT.out b.size)
      have HT0 := Lib.hid (HTT.out b.size)
      have HBE : Hid ((⟨(s.take b.size).toArray⟩ : ByteArray) = b) := Lib.hid (by
        rw [List.take_of_length_le (by rw [HSZ.out]; exact Nat.le_refl _)]
        have h := HS.out.data
        rw [← h])
      rw [replace_unesc, HBE.out] at HR0
      clear HRT HTT
      go_wp2_with fail
      refine HR0.out.mono ?_
      rintro e w2 ⟨rfl, hb2⟩
      have HB2 := Lib.hid hb2
      clear hb2
      go_wp2_with fail
      refine (HT0.out _).mono ?_
      rintro e w3 ⟨rfl, hb3⟩
      have HB3 := Lib.hid (below_newL HB2.out hb3)
      clear hb3
      go_wp2_with fail
      go_ret
      exact ⟨by rw [HAS.out]; rfl, HB3.out⟩
theorem trimLL_cons (c : UInt8) (t : List UInt8) : trimLL (c :: t) = if blankB c then trimLL t else c :: t := by unfold trimLL; rw [List.dropWhile_cons]
theorem trimRL_snoc (u : List UInt8) (c : UInt8) : trimRL (u ++ [c]) = if blankB c then trimRL u else u ++ [c] := by
  unfold trimRL
  rw [List.reverse_append, List.reverse_singleton, List.singleton_append, List.dropWhile_cons]
  split
  · rfl
  · simp
theorem ext_tail (a : UInt8) (t : List UInt8) : (⟨(a :: t).toArray⟩ : ByteArray).extract 1 (t.length + 1) = ⟨t.toArray⟩ := by
  have h := ext_dropL (strIsL (a :: t)) 1
  exact h
theorem snoc_of {s : List UInt8} (h : s ≠ []) : ∃ u c, s = u ++ [c] := ⟨_, _, (List.dropLast_concat_getLast h).symm⟩
theorem last_at {b : ByteArray} {u : List UInt8} {c : UInt8} (h : StrIsL b (u ++ [c])) (hk : u.length < b.size) : b[u.length] = c := by
  have h1 := h.at_ hk
  have h2 : (u ++ [c])[u.length]? = some c := by simp
  rw [h2] at h1
  injection h1 with h1
  exact h1.symm
def strLenL (v : Value) : Nat := match v with | .string s => s.size | _ => 0
set_option maxRecDepth 100000 in
set_option maxHeartbeats 2000000 in
theorem rTrimmed_any (s : List UInt8) (hl : s.length ≤ 1048640) (w : World) : Calls Tryz.prog 87 #[.string ⟨s.toArray⟩] w fun e w' => e = .returned (.string ⟨(trimBL s).toArray⟩) ∧ w = w' := by
  go_enter Tryz.func87, Tryz.ntmps87
  go_wp2_with fail
  go_loop [0] (fun x => ∃ t : List UInt8, x = .string ⟨t.toArray⟩ ∧ t.length ≤ 1048640 ∧ Hid (trimLL s = trimLL t)) (fun x => strLenL x)
  case atStart => exact ⟨s, rfl, hl, Lib.hid rfl⟩
  case round =>
    obtain ⟨t, rfl, ht, HT⟩ := hrel
    cases t with
    | nil =>
      go_wp2_with fail
      go_loop [0] (fun x => ∃ t : List UInt8, x = .string ⟨t.toArray⟩ ∧ t.length ≤ 1048640 ∧ Hid (trimBL s = trimRL t)) (fun x => strLenL x)
      case atStart => exact ⟨[], rfl, by simp, Lib.hid (by unfold trimBL; rw [HT.out]; rfl)⟩
      case round =>
        clear HT
        obtain ⟨t, rfl, ht, HT⟩ := hrel
        by_cases h0 : t = []
        · subst h0
          go_wp2_with fail
          go_ret
          exact ⟨by rw [HT.out]; rfl, rfl⟩
        · obtain ⟨u, d, rfl⟩ := snoc_of h0
          have HS := Lib.hid (strIsL (u ++ [d]))
          have hsz : (⟨(u ++ [d]).toArray⟩ : ByteArray).size = u.length + 1 := by rw [HS.out.size]; simp
          have hul : u.length ≤ 1048639 := by simp at ht; omega
          have HD : Hid ((⟨(u ++ [d]).toArray⟩ : ByteArray).toList.isEmpty = false) := Lib.hid (by rw [Lib.toList_data]; simp)
          have HX := Lib.hid (trimRL_snoc u d)
          have HE : Hid (trimRL (u ++ [d]) = u ++ [d] → (⟨(trimRL (u ++ [d])).toArray⟩ : ByteArray) = ⟨(u ++ [d]).toArray⟩) := Lib.hid (fun h => by rw [h])
          clear ht h0
          cases hb : blankB d with
          | true =>
            rw [hb] at HX
            have HBL := Lib.hid (fun W => rBlank_is d W hb)
            have HT2 : Hid (trimBL s = trimRL u) := Lib.hid (by rw [HT.out, HX.out]; rfl)
            have hsl := ext_takeL HS.out u.length
            rw [List.take_left'  rfl] at hsl
            have HMS : Hid (strLenL (.string ⟨u.toArray⟩) < strLenL (.string ⟨(u ++ [d]).toArray⟩)) := Lib.hid (by show u.length < (u ++ [d]).length; simp)
            generalize (⟨(u ++ [d]).toArray⟩ : ByteArray) = b at *
            have g1 : ∀ h, b[u.length]'h = d := fun h => last_at HS.out h
            have e1 : (b.size : Int) - 1 = (u.length : Int) := by omega
            have l1 : (u.length : Int) < (b.size : Int) := by omega
            have l2 : u.length < b.size := by omega
            have l3 : u.length ≤ b.size := by omega
            have he := HD.out
            clear hb HE
            go_wp2_with fail
            refine (HBL.out _).mono ?_
            rintro e w2 ⟨rfl, rfl⟩
            go_wp2_with fail
            exact ⟨⟨u, rfl, by omega, HT2⟩, HMS.out⟩
          | false =>
            rw [hb] at HX
            have HBL := Lib.hid (fun W => rBlank_is d W hb)
            have HT2 : Hid ((⟨(trimBL s).toArray⟩ : ByteArray) = ⟨(u ++ [d]).toArray⟩) := Lib.hid (by rw [HT.out]; exact HE.out HX.out)
            generalize (⟨(u ++ [d]).toArray⟩ : ByteArray) = b at *
            have g1 : ∀ h, b[u.length]'h = d := fun h => last_at HS.out h
            have e1 : (b.size : Int) - 1 = (u.length : Int) := by omega
            have l1 : (u.length : Int) < (b.size : Int) := by omega
            have l2 : u.length < b.size := by omega
            have he := HD.out
            clear hb HE
            go_wp2_with fail
            refine (HBL.out _).mono ?_
            rintro e w2 ⟨rfl, rfl⟩
            go_wp2_with fail
            go_ret
            exact ⟨by rw [HT2.out]; rfl, rfl⟩
    | cons c t' =>
      have g0 : ∀ h, (⟨(c :: t').toArray⟩ : ByteArray)[0]'h = c := fun _ => rfl
      have hsl := ext_tail c t'
      cases hb : blankB c with
      | true =>
        have HBL := Lib.hid (fun W => rBlank_is c W hb)
        have HT2 : Hid (trimLL s = trimLL t') := Lib.hid (by rw [HT.out, trimLL_cons, hb]; rfl)
        have hl2 : t'.length ≤ 1048640 := by simp at ht; omega
        clear hb ht
        go_wp2_with fail
        refine (HBL.out _).mono ?_
        rintro e w2 ⟨rfl, rfl⟩
        go_wp2_with fail
        exact ⟨⟨t', rfl, hl2, HT2⟩, Nat.lt_succ_self _⟩
      | false =>
        have HBL := Lib.hid (fun W => rBlank_is c W hb)
        have HT : Hid (trimLL s = c :: t') := Lib.hid (by rw [HT.out, trimLL_cons, hb]; rfl)
        have hl2 : (c :: t').length ≤ 1048640 := ht
        clear hb ht
        go_wp2_with fail
        refine (HBL.out _).mono ?_
        rintro e w2 ⟨rfl, rfl⟩
        clear g0 hsl
        go_wp2_with fail
        go_loop [0] (fun x => ∃ t : List UInt8, x = .string ⟨t.toArray⟩ ∧ t.length ≤ 1048640 ∧ Hid (trimBL s = trimRL t)) (fun x => strLenL x)
        case atStart => exact ⟨c :: t', rfl, hl2, Lib.hid (by unfold trimBL; rw [HT.out])⟩
        case round =>
          clear HT
          obtain ⟨t, rfl, ht, HT⟩ := hrel
          by_cases h0 : t = []
          · subst h0
            go_wp2_with fail
            go_ret
            exact ⟨by rw [HT.out]; rfl, rfl⟩
          · obtain ⟨u, d, rfl⟩ := snoc_of h0
            have HS := Lib.hid (strIsL (u ++ [d]))
            have hsz : (⟨(u ++ [d]).toArray⟩ : ByteArray).size = u.length + 1 := by rw [HS.out.size]; simp
            have hul : u.length ≤ 1048639 := by simp at ht; omega
            have HD : Hid ((⟨(u ++ [d]).toArray⟩ : ByteArray).toList.isEmpty = false) := Lib.hid (by rw [Lib.toList_data]; simp)
            have HX := Lib.hid (trimRL_snoc u d)
            have HE : Hid (trimRL (u ++ [d]) = u ++ [d] → (⟨(trimRL (u ++ [d])).toArray⟩ : ByteArray) = ⟨(u ++ [d]).toArray⟩) := Lib.hid (fun h => by rw [h])
            clear ht h0
            cases hb : blankB d with
            | true =>
              rw [hb] at HX
              have HBL := Lib.hid (fun W => rBlank_is d W hb)
              have HT2 : Hid (trimBL s = trimRL u) := Lib.hid (by rw [HT.out, HX.out]; rfl)
              have hsl := ext_takeL HS.out u.length
              rw [List.take_left'  rfl] at hsl
              have HMS : Hid (strLenL (.string ⟨u.toArray⟩) < strLenL (.string ⟨(u ++ [d]).toArray⟩)) := Lib.hid (by show u.length < (u ++ [d]).length; simp)
              generalize (⟨(u ++ [d]).toArray⟩ : ByteArray) = b at *
              have g1 : ∀ h, b[u.length]'h = d := fun h => last_at HS.out h
              have e1 : (b.size : Int) - 1 = (u.length : Int) := by omega
              have l1 : (u.length : Int) < (b.size : Int) := by omega
              have l2 : u.length < b.size := by omega
              have l3 : u.length ≤ b.size := by omega
              have he := HD.out
              clear hb HE
              go_wp2_with fail
              refine (HBL.out _).mono ?_
              rintro e w2 ⟨rfl, rfl⟩
              go_wp2_with fail
              exact ⟨⟨u, rfl, by omega, HT2⟩, HMS.out⟩
            | false =>
              rw [hb] at HX
              have HBL := Lib.hid (fun W => rBlank_is d W hb)
              have HT2 : Hid ((⟨(trimBL s).toArray⟩ : ByteArray) = ⟨(u ++ [d]).toArray⟩) := Lib.hid (by rw [HT.out]; exact HE.out HX.out)
              generalize (⟨(u ++ [d]).toArray⟩ : ByteArray) = b at *
              have g1 : ∀ h, b[u.length]'h = d := fun h => last_at HS.out h
              have e1 : (b.size : Int) - 1 = (u.length : Int) := by omega
              have l1 : (u.length : Int) < (b.size : Int) := by omega
              have l2 : u.length < b.size := by omega
              have he := HD.out
              clear hb HE
              go_wp2_with fail
              refine (HBL.out _).mono ?_
              rintro e w2 ⟨rfl, rfl⟩
              go_wp2_with fail
              go_ret
              exact ⟨by rw [HT2.out]; rfl, rfl⟩
end Go.Proofs.YtoandhhkmkgmaaaGreatDoor
/- Contract: the reference's aside. -/
namespace Go.Proofs.YtoandhhkmkgmaaaGreatDoor
open Go.RowKit

theorem unesc_take_len (s : List UInt8) (i : Nat) (hl : s.length ≤ 1048576) : (unescL (s.take i)).length ≤ 1048576 := by
  have h := unescL_len _ (s.take i) (Nat.le_refl _)
  rw [List.length_take] at h
  omega
set_option maxRecDepth 100000 in
set_option maxHeartbeats 4000000 in
theorem rAside_any (s : List UInt8) (hl : s.length ≤ 1048576) (w : World) : Calls Tryz.prog 170 #[.string ⟨s.toArray⟩] w fun e w' => e = .returned (.string ⟨(asideL s).toArray⟩) ∧ w = w' := by
  have HS1 := Lib.hid (strIsL s)
  have HUL := Lib.hid (fun i => unesc_take_len s i hl)
  generalize (⟨s.toArray⟩ : ByteArray) = b at *
  have hsz : b.size = s.length := HS1.out.size
  have HSZ := Lib.hid hsz
  have hbs : b.size ≤ 1048576 := by omega
  clear hsz hl
  go_enter Tryz.func170, Tryz.ntmps170
  go_wp2_with fail
  go_loop [3, 7] (fun y x => ∃ i : Nat, y = .string ⟨(unescL (s.take i)).toArray⟩ ∧ x = .int .i64 (i : Int) ∧ i ≤ b.size ∧ Hid (NoStop s i)) (fun _ x => b.size - (intOf x).toNat)
  case atStart => exact ⟨0, rfl, rfl, by omega, Lib.hid (fun j hj => by omega)⟩
  case round =>
    obtain ⟨i, rfl, rfl, hi, HNS⟩ := hrel
    by_cases hlt : i < b.size
    · obtain ⟨c, hc⟩ : ∃ c, c = b[i] := ⟨_, rfl⟩
      have g0 : ∀ h, b[i]'h = c := fun _ => hc.symm
      have HC : Hid (s[i]? = some c) := Lib.hid (by rw [hc]; exact HS1.out.at_ hlt)
      clear hc
      have i0 : (i : Int) < (b.size : Int) := by omega
      have i1 : (i : Int) + 1 ≤ (b.size : Int) := by omega
      have hsg := ext_one HS1.out HC.out
      have HTK := Lib.hid (take_snocL HC.out)
      have HI1 := Lib.hid (show i + 1 ≤ b.size from hlt)
      have HI2 := Lib.hid (measL hlt)
      have hTs : (⟨(unescL (s.take i)).toArray⟩ : ByteArray).size ≤ 1048576 := HUL.out i
      by_cases h35 : c = 35
      · have k35 : ((c.toNat : Int) == 35) = true := by rw [h35]; rfl
        have HC2 : Hid (s[i]? = some 35) := Lib.hid (by rw [HC.out, h35])
        by_cases h0 : i = 0
        · subst h0
          have HAS := Lib.hid (aside_of HNS.out (by omega) (.inr ⟨HC2.out, by simp⟩))
          clear h35 hsg
          go_wp2_with fail
          go_loop [3] (fun x => ∃ t : List UInt8, x = .string ⟨t.toArray⟩ ∧ t.length ≤ 1048576 ∧ Hid (asideL s = trimRL t)) (fun x => strLenL x)
          case atStart => exact ⟨unescL (s.take 0), rfl, HUL.out 0, HAS⟩
          case round =>
            obtain ⟨t, rfl, ht, HT⟩ := hrel
            by_cases h0 : t = []
            · subst h0
              go_wp2_with fail
              go_ret
              exact ⟨by rw [HT.out]; rfl, rfl⟩
            · obtain ⟨u, d, rfl⟩ := snoc_of h0
              have HS := Lib.hid (strIsL (u ++ [d]))
              have hsz : (⟨(u ++ [d]).toArray⟩ : ByteArray).size = u.length + 1 := by rw [HS.out.size]; simp
              have hul : u.length ≤ 1048575 := by simp at ht; omega
              have HD : Hid ((⟨(u ++ [d]).toArray⟩ : ByteArray).toList.isEmpty = false) := Lib.hid (by rw [Lib.toList_data]; simp)
              have HX := Lib.hid (trimRL_snoc u d)
              have HE : Hid (trimRL (u ++ [d]) = u ++ [d] → (⟨(trimRL (u ++ [d])).toArray⟩ : ByteArray) = ⟨(u ++ [d]).toArray⟩) := Lib.hid (fun h => by rw [h])
              clear ht h0
              cases hb : blankB d with
              | true =>
                rw [hb] at HX
                have HBL := Lib.hid (fun W => rBlank_is d W hb)
                have HT2 : Hid (asideL s = trimRL u) := Lib.hid (by rw [HT.out, HX.out]; rfl)
                have hsl := ext_takeL HS.out u.length
                rw [List.take_left'  rfl] at hsl
                have HMS : Hid (strLenL (.string ⟨u.toArray⟩) < strLenL (.string ⟨(u ++ [d]).toArray⟩)) := Lib.hid (by show u.length < (u ++ [d]).length; simp)
                generalize (⟨(u ++ [d]).toArray⟩ : ByteArray) = bz at *
                have g1 : ∀ h, bz[u.length]'h = d := fun h => last_at HS.out h
                have e1 : (bz.size : Int) - 1 = (u.length : Int) := by omega
                have l1 : (u.length : Int) < (bz.size : Int) := by omega
                have l2 : u.length < bz.size := by omega
                have l3 : u.length ≤ bz.size := by omega
                have he := HD.out
                clear hb HE
                go_wp2_with fail
                refine (HBL.out _).mono ?_
                rintro e w2 ⟨rfl, rfl⟩
                go_wp2_with fail
                exact ⟨⟨u, rfl, by omega, HT2⟩, HMS.out⟩
              | false =>
                rw [hb] at HX
                have HBL := Lib.hid (fun W => rBlank_is d W hb)
                have HT2 : Hid ((⟨(asideL s).toArray⟩ : ByteArray) = ⟨(u ++ [d]).toArray⟩) := Lib.hid (by rw [HT.out]; exact HE.out HX.out)
                generalize (⟨(u ++ [d]).toArray⟩ : ByteArray) = bz at *
                have g1 : ∀ h, bz[u.length]'h = d := fun h => last_at HS.out h
                have e1 : (bz.size : Int) - 1 = (u.length : Int) := by omega
                have l1 : (u.length : Int) < (bz.size : Int) := by omega
                have l2 : u.length < bz.size := by omega
                have he := HD.out
                clear hb HE
                go_wp2_with fail
                refine (HBL.out _).mono ?_
                rintro e w2 ⟨rfl, rfl⟩
                go_wp2_with fail
                go_ret
                exact ⟨by rw [HT2.out]; rfl, rfl⟩
        · have hi1 : i - 1 < b.size := by omega
          obtain ⟨pc, hpc⟩ : ∃ c, c = b[i - 1] := ⟨_, rfl⟩
          have g1 : ∀ h, b[i - 1]'h = pc := fun _ => hpc.symm
          have HP : Hid (s[i - 1]? = some pc) := Lib.hid (by rw [hpc]; exact HS1.out.at_ hi1)
          clear hpc
          have e1 : (i : Int) - 1 = ((i - 1 : Nat) : Int) := by omega
          have k0 : ((i : Int) == 0) = false := by simp; omega
          by_cases h92 : pc = 92
          · have k92 : ((pc.toNat : Int) != 92) = false := by rw [h92]; rfl
            have HNS2 := Lib.hid (HNS.out.succ (fun hh => hh.2 (by rw [if_neg h0, HP.out, h92])))
            have hU : unescL (s.take i) = unescL (s.take (i - 1)) ++ [92] := by
              have e : s.take i = s.take (i - 1) ++ [92] := by
                have := take_snocL HP.out
                rw [show i - 1 + 1 = i by omega, h92] at this
                exact this
              rw [e, unescL_snoc, if_neg (fun hh => absurd hh.1 (by decide))]
            have hU2 : unescL (s.take (i + 1)) = unescL (s.take (i - 1)) ++ [35] := by
              have hg : (s.take i).getLast? = some 92 := by
                have := take_snocL HP.out
                rw [show i - 1 + 1 = i by omega, h92] at this
                rw [this]; simp
              rw [HTK.out, h35, unescL_snoc, if_pos ⟨rfl, hg⟩, hU]
              simp
            have HVS := Lib.hid (strIsL (unescL (s.take (i - 1)) ++ [92]))
            rw [hU] at hTs ⊢
            have hsz2 : (⟨(unescL (s.take (i - 1)) ++ [92]).toArray⟩ : ByteArray).size = (unescL (s.take (i - 1))).length + 1 := by rw [HVS.out.size]; simp
            have hsl := ext_takeL HVS.out (unescL (s.take (i - 1))).length
            rw [List.take_left' rfl] at hsl
            have hcat := Lib.hid (show (⟨(unescL (s.take (i - 1))).toArray⟩ : ByteArray) ++ ⟨#[c]⟩ = ⟨(unescL (s.take (i + 1))).toArray⟩ by
              rw [hU2, h35]
              exact cat_bytesL _ [35])
            have hvl : (⟨(unescL (s.take (i - 1))).toArray⟩ : ByteArray).size = (unescL (s.take (i - 1))).length := rfl
            generalize (unescL (s.take (i - 1))).length = vl at *
            generalize (⟨(unescL (s.take (i - 1)) ++ [92]).toArray⟩ : ByteArray) = BT at *
            generalize (⟨(unescL (s.take (i - 1))).toArray⟩ : ByteArray) = BV at *
            have e2 : (BT.size : Int) - 1 = (vl : Int) := by omega
            have l3 : vl ≤ BT.size := by omega
            have hvs : BV.size ≤ 1048576 := by omega
            clear h35 h92 hU hU2 hvl hsz2
            go_wp2_with fail
            exact ⟨⟨i + 1, congrArg Value.string hcat.out, rfl, HI1.out, HNS2⟩, HI2.out⟩
          · have k92 : ((pc.toNat : Int) != 92) = true := neK h92
            have HAS := Lib.hid (aside_of HNS.out (by rw [← HSZ.out]; omega) (.inr ⟨HC2.out, by rw [if_neg h0, HP.out]; exact fun e => h92 (by injection e)⟩))
            clear h35 h92 hsg
            go_wp2_with fail
            go_loop [3] (fun x => ∃ t : List UInt8, x = .string ⟨t.toArray⟩ ∧ t.length ≤ 1048576 ∧ Hid (asideL s = trimRL t)) (fun x => strLenL x)
            case atStart => exact ⟨unescL (s.take i), rfl, HUL.out i, HAS⟩
            case round =>
              obtain ⟨t, rfl, ht, HT⟩ := hrel
              by_cases h0 : t = []
              · subst h0
                go_wp2_with fail
                go_ret
                exact ⟨by rw [HT.out]; rfl, rfl⟩
              · obtain ⟨u, d, rfl⟩ := snoc_of h0
                have HS := Lib.hid (strIsL (u ++ [d]))
                have hsz : (⟨(u ++ [d]).toArray⟩ : ByteArray).size = u.length + 1 := by rw [HS.out.size]; simp
                have hul : u.length ≤ 1048575 := by simp at ht; omega
                have HD : Hid ((⟨(u ++ [d]).toArray⟩ : ByteArray).toList.isEmpty = false) := Lib.hid (by rw [Lib.toList_data]; simp)
                have HX := Lib.hid (trimRL_snoc u d)
                have HE : Hid (trimRL (u ++ [d]) = u ++ [d] → (⟨(trimRL (u ++ [d])).toArray⟩ : ByteArray) = ⟨(u ++ [d]).toArray⟩) := Lib.hid (fun h => by rw [h])
                clear ht h0
                cases hb : blankB d with
                | true =>
                  rw [hb] at HX
                  have HBL := Lib.hid (fun W => rBlank_is d W hb)
                  have HT2 : Hid (asideL s = trimRL u) := Lib.hid (by rw [HT.out, HX.out]; rfl)
                  have hsl := ext_takeL HS.out u.length
                  rw [List.take_left'  rfl] at hsl
                  have HMS : Hid (strLenL (.string ⟨u.toArray⟩) < strLenL (.string ⟨(u ++ [d]).toArray⟩)) := Lib.hid (by show u.length < (u ++ [d]).length; simp)
                  generalize (⟨(u ++ [d]).toArray⟩ : ByteArray) = bz at *
                  have g1 : ∀ h, bz[u.length]'h = d := fun h => last_at HS.out h
                  have e1 : (bz.size : Int) - 1 = (u.length : Int) := by omega
                  have l1 : (u.length : Int) < (bz.size : Int) := by omega
                  have l2 : u.length < bz.size := by omega
                  have l3 : u.length ≤ bz.size := by omega
                  have he := HD.out
                  clear hb HE
                  go_wp2_with fail
                  refine (HBL.out _).mono ?_
                  rintro e w2 ⟨rfl, rfl⟩
                  go_wp2_with fail
                  exact ⟨⟨u, rfl, by omega, HT2⟩, HMS.out⟩
                | false =>
                  rw [hb] at HX
                  have HBL := Lib.hid (fun W => rBlank_is d W hb)
                  have HT2 : Hid ((⟨(asideL s).toArray⟩ : ByteArray) = ⟨(u ++ [d]).toArray⟩) := Lib.hid (by rw [HT.out]; exact HE.out HX.out)
                  generalize (⟨(u ++ [d]).toArray⟩ : ByteArray) = bz at *
                  have g1 : ∀ h, bz[u.length]'h = d := fun h => last_at HS.out h
                  have e1 : (bz.size : Int) - 1 = (u.length : Int) := by omega
                  have l1 : (u.length : Int) < (bz.size : Int) := by omega
                  have l2 : u.length < bz.size := by omega
                  have he := HD.out
                  clear hb HE
                  go_wp2_with fail
                  refine (HBL.out _).mono ?_
                  rintro e w2 ⟨rfl, rfl⟩
                  go_wp2_with fail
                  go_ret
                  exact ⟨by rw [HT2.out]; rfl, rfl⟩
      · have k35 : ((c.toNat : Int) == 35) = false := eqK h35
        have HNS2 := Lib.hid (HNS.out.succ (fun hh => h35 (by have := hh.1; rw [HC.out] at this; injection this)))
        have hcat := Lib.hid (show (⟨(unescL (s.take i)).toArray⟩ : ByteArray) ++ ⟨#[c]⟩ = ⟨(unescL (s.take (i + 1))).toArray⟩ by
          rw [HTK.out, unescL_snoc, if_neg (fun hh => h35 hh.1)]
          exact cat_bytesL _ [c])
        generalize (⟨(unescL (s.take i)).toArray⟩ : ByteArray) = BT at *
        clear h35
        go_wp2_with fail
        exact ⟨⟨i + 1, congrArg Value.string hcat.out, rfl, HI1.out, HNS2⟩, HI2.out⟩
    · obtain rfl : i = b.size := by omega
      have HAS := Lib.hid (aside_of HNS.out (by rw [HSZ.out]; exact Nat.le_refl _) (.inl HSZ.out))
      go_wp2_with fail
      go_loop [3] (fun x => ∃ t : List UInt8, x = .string ⟨t.toArray⟩ ∧ t.length ≤ 1048576 ∧ Hid (asideL s = trimRL t)) (fun x => strLenL x)
      case atStart => exact ⟨unescL (s.take b.size), rfl, HUL.out b.size, HAS⟩
      case round =>
        obtain ⟨t, rfl, ht, HT⟩ := hrel
        by_cases h0 : t = []
        · subst h0
          go_wp2_with fail
          go_ret
          exact ⟨by rw [HT.out]; rfl, rfl⟩
        · obtain ⟨u, d, rfl⟩ := snoc_of h0
          have HS := Lib.hid (strIsL (u ++ [d]))
          have hsz : (⟨(u ++ [d]).toArray⟩ : ByteArray).size = u.length + 1 := by rw [HS.out.size]; simp
          have hul : u.length ≤ 1048575 := by simp at ht; omega
          have HD : Hid ((⟨(u ++ [d]).toArray⟩ : ByteArray).toList.isEmpty = false) := Lib.hid (by rw [Lib.toList_data]; simp)
          have HX := Lib.hid (trimRL_snoc u d)
          have HE : Hid (trimRL (u ++ [d]) = u ++ [d] → (⟨(trimRL (u ++ [d])).toArray⟩ : ByteArray) = ⟨(u ++ [d]).toArray⟩) := Lib.hid (fun h => by rw [h])
          clear ht h0
          cases hb : blankB d with
          | true =>
            rw [hb] at HX
            have HBL := Lib.hid (fun W => rBlank_is d W hb)
            have HT2 : Hid (asideL s = trimRL u) := Lib.hid (by rw [HT.out, HX.out]; rfl)
            have hsl := ext_takeL HS.out u.length
            rw [List.take_left'  rfl] at hsl
            have HMS : Hid (strLenL (.string ⟨u.toArray⟩) < strLenL (.string ⟨(u ++ [d]).toArray⟩)) := Lib.hid (by show u.length < (u ++ [d]).length; simp)
            generalize (⟨(u ++ [d]).toArray⟩ : ByteArray) = bz at *
            have g1 : ∀ h, bz[u.length]'h = d := fun h => last_at HS.out h
            have e1 : (bz.size : Int) - 1 = (u.length : Int) := by omega
            have l1 : (u.length : Int) < (bz.size : Int) := by omega
            have l2 : u.length < bz.size := by omega
            have l3 : u.length ≤ bz.size := by omega
            have he := HD.out
            clear hb HE
            go_wp2_with fail
            refine (HBL.out _).mono ?_
            rintro e w2 ⟨rfl, rfl⟩
            go_wp2_with fail
            exact ⟨⟨u, rfl, by omega, HT2⟩, HMS.out⟩
          | false =>
            rw [hb] at HX
            have HBL := Lib.hid (fun W => rBlank_is d W hb)
            have HT2 : Hid ((⟨(asideL s).toArray⟩ : ByteArray) = ⟨(u ++ [d]).toArray⟩) := Lib.hid (by rw [HT.out]; exact HE.out HX.out)
            generalize (⟨(u ++ [d]).toArray⟩ : ByteArray) = bz at *
            have g1 : ∀ h, bz[u.length]'h = d := fun h => last_at HS.out h
            have e1 : (bz.size : Int) - 1 = (u.length : Int) := by omega
            have l1 : (u.length : Int) < (bz.size : Int) := by omega
            have l2 : u.length < bz.size := by omega
            have he := HD.out
            clear hb HE
            go_wp2_with fail
            refine (HBL.out _).mono ?_
            rintro e w2 ⟨rfl, rfl⟩
            go_wp2_with fail
            go_ret
            exact ⟨by rw [HT2.out]; rfl, rfl⟩
end Go.Proofs.YtoandhhkmkgmaaaGreatDoor
/- Contract: line.Split. -/
namespace Go.Proofs.YtoandhhkmkgmaaaGreatDoor
open Go.RowKit

theorem ixb_cases : ∀ (l : List UInt8) (c : UInt8), (Lib.indexByte l c = -1 ∧ c ∉ l) ∨ ∃ k : Nat, Lib.indexByte l c = (k : Int) ∧ l[k]? = some c ∧ c ∉ l.take k
  | [], c => .inl ⟨rfl, by simp⟩
  | b :: l, c => by
    by_cases h : b = c
    · subst h
      exact .inr ⟨0, by simp [Lib.indexByte], rfl, by simp⟩
    · have hb : (b == c) = false := beq_eq_false_iff_ne.2 h
      rcases ixb_cases l c with ⟨h1, h2⟩ | ⟨k, h1, h2, h3⟩
      · refine .inl ⟨by simp [Lib.indexByte, hb, h1], ?_⟩
        rw [List.mem_cons]
        rintro (e | e)
        · exact h e.symm
        · exact h2 e
      · refine .inr ⟨k + 1, ?_, by simpa using h2, ?_⟩
        · have : ((k : Int) == -1) = false := by simp
          simp [Lib.indexByte, hb, h1, this]
          try omega
        · rw [List.take_succ_cons, List.mem_cons]
          rintro (e | e)
          · exact h e.symm
          · exact h3 e
def SplPost (s : List UInt8) (c : UInt8) (w : World) (e : Ending) (w' : World) : Prop :=
  Below w.heap.size w w' ∧ ((c ∉ s ∧ e = .returned (.tuple #[.string ⟨s.toArray⟩, .string ⟨#[]⟩, .bool false])) ∨
    ∃ k : Nat, s[k]? = some c ∧ c ∉ s.take k ∧ e = .returned (.tuple #[.string ⟨(trimBL (s.take k)).toArray⟩, .string ⟨(trimBL (s.drop (k + 1))).toArray⟩, .bool true]))
set_option maxRecDepth 100000 in
set_option maxHeartbeats 400000 in
theorem lnSplit_any (s : List UInt8) (c : UInt8) (hl : s.length ≤ 1048640) (w : World) : Calls Tryz.prog 78 #[.string ⟨s.toArray⟩, .int .u8 (c.toNat : Int)] w (SplPost s c w) := by
  have HI := Lib.hid (Tryz.strings_IndexByte ⟨s.toArray⟩ (c.toNat : Int) w)
  have hcs := ixb_cases s c
  have HS := Lib.hid (strIsL s)
  have hof : ((c.toNat : Int)).toNat.toUInt8 = c := by simp
  rw [hof, show (⟨s.toArray⟩ : ByteArray).data.toList = s from rfl] at HI
  rcases hcs with ⟨h1, h2⟩ | ⟨k, h1, h2, h3⟩
  · rw [h1] at HI
    have H2 := Lib.hid h2
    have HSE := Lib.hid (show Value.string ⟨s.toArray⟩ = .string ⟨s.toArray⟩ from rfl)
    clear h1 h2
    generalize hbs : (⟨s.toArray⟩ : ByteArray) = b at *
    have HBS := Lib.hid hbs
    clear hbs
    go_enter Tryz.func78, Tryz.ntmps78
    go_wp2_with fail
    refine HI.out.mono ?_
    rintro e w' ⟨rfl, rfl⟩
    go_wp2_with fail
    go_ret3
    exact ⟨Below.refl _ _, .inl ⟨H2.out, by rw [HBS.out]; rfl⟩⟩
  · rw [h1] at HI
    have H2 := Lib.hid h2
    have H3 := Lib.hid h3
    have hks : k < s.length := (List.getElem?_eq_some_iff.1 h2).1
    have hsl := ext_takeL HS.out k
    have hsr := ext_dropL HS.out (k + 1)
    have HT1 := Lib.hid (fun W => sTrim_any (s.take k) (by rw [List.length_take]; omega) W)
    have HT2 := Lib.hid (fun W => sTrim_any (s.drop (k + 1)) (by rw [List.length_drop]; omega) W)
    have hsz : (⟨s.toArray⟩ : ByteArray).size = s.length := rfl
    clear h1 h2 h3 hof
    generalize (⟨s.toArray⟩ : ByteArray) = b at *
    generalize (⟨(s.take k).toArray⟩ : ByteArray) = bu at *
    generalize (⟨(s.drop (k + 1)).toArray⟩ : ByteArray) = bv at *
    have k1 : k < b.size := by omega
    have k2 : (k : Int) < (b.size : Int) := by omega
    have k3 : (k : Int) + 1 ≤ (b.size : Int) := by omega
    have k4 : 0 ≤ (k : Int) + 1 := by omega
    have k5 : (k : Int) ≤ (b.size : Int) := by omega
    have k7 : 0 ≤ (k : Int) := by omega
    have hw2 : IntKind.i64.wrap ((k : Int) + 1) = (k : Int) + 1 := by rw [IntKind.wrap_i64]; omega
    have k6 : b.size ≤ 1048640 := by omega
    clear hsz hks hl
    go_enter Tryz.func78, Tryz.ntmps78
    go_wp2_with fail
    refine HI.out.mono ?_
    rintro e w' ⟨rfl, rfl⟩
    go_wp2_with fail
    have B0 := Below.refl w'.heap.size w'
    clear k1 k6
    go_region_held3 (fun W => Below w'.heap.size w' W) ((first | assumption | exact Below.drew (by assumption))) ((first
      | (go_at_call_of 140 (Value.string bu); refine (HT1.out _).mono ?_; rintro e w5 ⟨rfl, hb5⟩; first | (have B5 := below_newL B6 hb5) | (have B5 := below_newL (Below.drew B0) hb5))
      | (go_at_call_of 140 (Value.string bv); refine (HT2.out _).mono ?_; rintro e w6 ⟨rfl, hb6⟩; first | (have B6 := below_newL B5 hb6) | (have B6 := below_newL (Below.drew B0) hb6))))
    have HB6 := Lib.hid B6
    clear B5 B6 hb5 hb6
    go_wp2_with fail
    go_ret3
    exact ⟨HB6.out, .inr ⟨k, H2.out, H3.out, rfl⟩⟩
end Go.Proofs.YtoandhhkmkgmaaaGreatDoor
