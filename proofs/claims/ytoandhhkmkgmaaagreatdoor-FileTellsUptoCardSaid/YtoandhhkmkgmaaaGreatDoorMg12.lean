/- Some of the proof's texts, merged; each one's own words stand ahead of it. -/
import Derived.Test.YtoandhhkmkgmaaaGreatDoorBase
import Derived.Lib.Replace
import Derived.Lib.SlTrimSet
import Derived.Test.YtoandhhkmkgmaaaGreatDoorShelf
import Derived.BigRegion
import Derived.Deep.Cut
import Derived.Deep.RegionHeld3
import Derived.Lib.Hide
import Derived.Lib.Walk
import Derived.WalkKit
import Derived.Outline
import Derived.Test.YtoandhhkmkgmaaaGreatDoorOwn
import Derived.Maps.AppendAt
import Derived.OneCell
import Derived.Lib.IndexMore
import Derived.Lib.IndexLaws
import Derived.Test.YtoandhhkmkgmaaaGreatDoorMg11
import Derived.BigQuiet
import Derived.Deep.QuietTactic
import Derived.Deep.RegionWith
/- Lines, in plain Lean: signs that are none, blanks, what is said aside, what is shown. No program in sight. -/
namespace Go.Proofs.YtoandhhkmkgmaaaGreatDoor

def blankB (c : UInt8) : Bool := c == 32 || c == 9
def badB (c : UInt8) : Bool := decide (126 < c) || (decide (c < 32) && c != 9 && c != 10)
def shownL (s : List UInt8) : List UInt8 := s.flatMap fun c => if c = 35 then [92, 35] else [c]
def unescL : List UInt8 → List UInt8
  | [] => []
  | 92 :: 35 :: t => 35 :: unescL t
  | c :: t => c :: unescL t
def trimLL (s : List UInt8) : List UInt8 := s.dropWhile blankB
def trimRL (s : List UInt8) : List UInt8 := (s.reverse.dropWhile blankB).reverse
def trimBL (s : List UInt8) : List UInt8 := trimRL (trimLL s)
theorem blanks_eq (c : UInt8) : ([32, 9] : List UInt8).contains c = blankB c := by
  rw [Bool.eq_iff_iff]
  simp [blankB]
theorem trimLeft_eq (s : List UInt8) : Lib.trimLeftS s [32, 9] = trimLL s := by
  unfold Lib.trimLeftS trimLL
  congr 1
  funext c
  exact blanks_eq c
theorem trimRight_eq (s : List UInt8) : Lib.trimRightS s [32, 9] = trimRL s := by
  unfold Lib.trimRightS trimRL
  congr 3
  funext c
  exact blanks_eq c
/-! ### Replaced -/
theorem rk_skip {old new : List UInt8} (f : Nat) {c : UInt8} {t : List UInt8} (h : old.isPrefixOf (c :: t) = false) : Lib.replaceK old new (f + 1) (c :: t) = c :: Lib.replaceK old new (f + 1) t := by
  have hi : Lib.index (c :: t) old = if Lib.index t old == -1 then -1 else Lib.index t old + 1 := by rw [Lib.index, h]; rfl
  rw [Lib.replaceK, Lib.replaceK, hi]
  have hge := Lib.index_ge t old
  by_cases hn : Lib.index t old = -1
  · rw [hn]; rfl
  · have h1 : (Lib.index t old == -1) = false := by simp [hn]
    have h2 : (Lib.index t old + 1 == -1) = false := by simp; omega
    rw [h1]
    simp only [Bool.false_eq_true, if_false]
    rw [h2]
    simp only [Bool.false_eq_true, if_false]
    have e : (Lib.index t old + 1).toNat = (Lib.index t old).toNat + 1 := by omega
    rw [e, List.take_succ_cons, show (Lib.index t old).toNat + 1 + old.length = ((Lib.index t old).toNat + old.length) + 1 by omega, List.drop_succ_cons]
    rfl
theorem rk_hit {old new : List UInt8} (f : Nat) {c : UInt8} {t : List UInt8} (h : old.isPrefixOf (c :: t) = true) : Lib.replaceK old new (f + 1) (c :: t) = new ++ Lib.replaceK old new f ((c :: t).drop old.length) := by
  have hi : Lib.index (c :: t) old = 0 := by rw [Lib.index, h]; rfl
  rw [Lib.replaceK, hi]
  simp
theorem rk_nil {old new : List UInt8} (f : Nat) (h : old ≠ []) : Lib.replaceK old new f [] = [] := by
  cases f with
  | zero => rfl
  | succ f =>
    have hi : Lib.index [] old = -1 := by
      rw [Lib.index]
      cases old with
      | nil => exact absurd rfl h
      | cons a l => rfl
    rw [Lib.replaceK, hi]
    rfl
theorem rk_count (old new : List UInt8) : ∀ (f : Nat) (s : List UInt8), Lib.replaceK old new (Lib.countFrom old f s) s = Lib.replaceK old new f s
  | 0, _ => rfl
  | f + 1, s => by
    rw [Lib.countFrom]
    by_cases h : (Lib.index s old == -1) = true
    · rw [if_pos h, Lib.replaceK, Lib.replaceK, if_pos h]
    · rw [if_neg h, Nat.add_comm 1, Lib.replaceK, Lib.replaceK, if_neg h, if_neg h, rk_count old new f]
theorem replaceAll_eq {s old new : List UInt8} (h : old ≠ new) : Lib.replaceAll s old new = Lib.replaceK old new (s.length + 1) s := by
  have hb : (old == new) = false := beq_eq_false_iff_ne.2 h
  unfold Lib.replaceAll Lib.replace
  rw [hb]
  simp only [Bool.false_eq_true, if_false]
  have e : Lib.replaceNum s old (-1) = Lib.countFrom old (s.length + 1) s := by unfold Lib.replaceNum Lib.count; rw [if_pos (.inl (by decide))]
  rw [e, rk_count]
theorem rk_shown : ∀ (s : List UInt8) (f : Nat), s.length < f → Lib.replaceK [35] [92, 35] f s = shownL s
  | [], f, _ => rk_nil f (by simp)
  | c :: t, 0, h => by omega
  | c :: t, f + 1, h => by
    simp only [List.length_cons] at h
    by_cases hc : c = 35
    · subst hc
      rw [rk_hit f (by simp [List.isPrefixOf]), show ([35] : List UInt8).length = 1 from rfl, List.drop_succ_cons, List.drop_zero, rk_shown t f (by omega)]
      simp [shownL]
    · have hp : ([35] : List UInt8).isPrefixOf (c :: t) = false := by
        have : ((35 : UInt8) == c) = false := beq_eq_false_iff_ne.2 (fun e => hc e.symm)
        simp [List.isPrefixOf, this]
      rw [rk_skip f hp, rk_shown t (f + 1) (by omega)]
      simp [shownL, hc]
theorem unescL_hit (t : List UInt8) : unescL (92 :: 35 :: t) = 35 :: unescL t := by rw [unescL]
theorem unescL_skip {c : UInt8} {t : List UInt8} (h : ¬ (c = 92 ∧ t.head? = some 35)) : unescL (c :: t) = c :: unescL t := by
  rw [unescL]
  intro t' h1 h2
  exact h ⟨h1, by rw [h2]; rfl⟩
theorem rk_unesc : ∀ (n : Nat) (s : List UInt8) (f : Nat), s.length ≤ n → s.length < f → Lib.replaceK [92, 35] [35] f s = unescL s := by
  intro n
  induction n with
  | zero =>
    intro s f hn hf
    obtain rfl : s = [] := List.length_eq_zero_iff.1 (by omega)
    rw [rk_nil f (by simp), unescL]
  | succ n ih =>
    intro s f hn hf
    cases s with
    | nil => rw [rk_nil f (by simp), unescL]
    | cons c t =>
      cases f with
      | zero => simp at hf
      | succ f =>
        simp only [List.length_cons] at hn hf
        by_cases h : c = 92 ∧ t.head? = some 35
        · obtain ⟨rfl, ht⟩ := h
          cases t with
          | nil => cases ht
          | cons d t' =>
            simp at ht
            subst ht
            rw [rk_hit f (by simp [List.isPrefixOf]), show ([92, 35] : List UInt8).length = 2 from rfl]
            simp only [List.drop_succ_cons, List.drop_zero, List.length_cons] at hn hf ⊢
            rw [ih t' f (by omega) (by omega), unescL_hit]
            rfl
        · have hp : ([92, 35] : List UInt8).isPrefixOf (c :: t) = false := by
            rw [Bool.eq_false_iff]
            intro hp
            cases t with
            | nil => simp [List.isPrefixOf] at hp
            | cons d t' =>
              simp [List.isPrefixOf] at hp
              exact h ⟨hp.1.symm, by rw [← hp.2]; rfl⟩
          rw [rk_skip f hp, ih t (f + 1) (by omega) (by omega), unescL_skip h]
theorem replace_shown (s : List UInt8) : Lib.replaceAll s [35] [92, 35] = shownL s := by
  rw [replaceAll_eq (by simp), rk_shown _ _ (Nat.lt_succ_self _)]
theorem replace_unesc (s : List UInt8) : Lib.replaceAll s [92, 35] [35] = unescL s := by
  rw [replaceAll_eq (by simp), rk_unesc _ _ _ (Nat.le_refl _) (Nat.lt_succ_self _)]
theorem shownL_snoc (s : List UInt8) (c : UInt8) : shownL (s ++ [c]) = shownL s ++ (if c = 35 then [92, 35] else [c]) := by unfold shownL; rw [List.flatMap_append]; simp
theorem shownL_len (s : List UInt8) : (shownL s).length ≤ 2 * s.length := by
  induction s with
  | nil => exact Nat.le_refl _
  | cons c t ih =>
    have e : shownL (c :: t) = (if c = 35 then [92, 35] else [c]) ++ shownL t := rfl
    have l : (if c = 35 then [92, 35] else [c] : List UInt8).length ≤ 2 := by split <;> simp
    rw [e, List.length_append, List.length_cons]
    omega
/-! ### Said aside -/
/-- One stops here: the sign behind no backslash. -/
def stopA (s : List UInt8) (i : Nat) : Bool := (s[i]? == some 35) && (i == 0 || s[i - 1]? != some 92)
def takeA (p : Option UInt8) : List UInt8 → List UInt8
  | [] => []
  | c :: t => if c = 35 ∧ p ≠ some 92 then [] else c :: takeA (some c) t
theorem takeA_eq : ∀ (s : List UInt8) (p : Option UInt8) (i : Nat), i ≤ s.length → (∀ j, j < i → ¬ (s[j]? = some 35 ∧ (if j = 0 then p else s[j - 1]?) ≠ some 92)) → (i = s.length ∨ (s[i]? = some 35 ∧ (if i = 0 then p else s[i - 1]?) ≠ some 92)) → takeA p s = s.take i
  | [], p, i, _, _, _ => by rw [takeA]; simp
  | c :: t, p, i, hi, h1, h2 => by
    rw [takeA]
    cases i with
    | zero =>
      rcases h2 with h2 | h2
      · simp at h2
      · rw [if_pos]
        · rfl
        · simpa using h2
    | succ i =>
      have h0 := h1 0 (by omega)
      rw [if_neg (by simpa using h0), List.take_succ_cons]
      congr 1
      refine takeA_eq t (some c) i (by simp at hi; omega) (fun j hj hh => ?_) ?_
      · refine h1 (j + 1) (by omega) ?_
        rw [if_neg (by omega)]
        refine ⟨by simpa using hh.1, ?_⟩
        cases j with
        | zero => simpa using hh.2
        | succ j => simpa using hh.2
      · rcases h2 with h2 | h2
        · left; simp at h2; omega
        · right
          rw [if_neg (by omega)] at h2
          refine ⟨by simpa using h2.1, ?_⟩
          cases i with
          | zero => simpa using h2.2
          | succ i => simpa using h2.2
/-- What is left of a line. -/
def asideL (s : List UInt8) : List UInt8 := trimRL (unescL (takeA none s))
theorem unescL_app : ∀ (n : Nat) (u v : List UInt8), u.length ≤ n → ¬ (u.getLast? = some 92 ∧ v.head? = some 35) → unescL (u ++ v) = unescL u ++ unescL v := by
  intro n
  induction n with
  | zero =>
    intro u v hn _
    obtain rfl : u = [] := List.length_eq_zero_iff.1 (by omega)
    rfl
  | succ n ih =>
    intro u v hn h
    cases u with
    | nil => rfl
    | cons c t =>
      simp only [List.length_cons] at hn
      by_cases hc : c = 92 ∧ t.head? = some 35
      · obtain ⟨rfl, ht⟩ := hc
        cases t with
        | nil => cases ht
        | cons d t' =>
          simp at ht
          subst ht
          rw [List.cons_append, List.cons_append, unescL_hit, unescL_hit, List.cons_append]
          congr 1
          refine ih t' v (by simp at hn; omega) (fun hh => ?_)
          cases t' with
          | nil => simp at hh
          | cons x y => exact h ⟨by simpa using hh.1, hh.2⟩
      · have hc2 : ¬ (c = 92 ∧ (t ++ v).head? = some 35) := by
          intro hh
          cases t with
          | nil => exact h ⟨by simp [hh.1], by simpa using hh.2⟩
          | cons d t' => exact hc ⟨hh.1, by simpa using hh.2⟩
        rw [List.cons_append, unescL_skip hc2, unescL_skip hc, List.cons_append]
        congr 1
        refine ih t v (by omega) (fun hh => ?_)
        cases t with
        | nil => simp at hh
        | cons x y => exact h ⟨by simpa using hh.1, hh.2⟩
/-- One more sign. -/
theorem unescL_snoc (u : List UInt8) (c : UInt8) : unescL (u ++ [c]) = if c = 35 ∧ u.getLast? = some 92 then (unescL u).dropLast ++ [35] else unescL u ++ [c] := by
  have one : ∀ c : UInt8, unescL [c] = [c] := fun c => by rw [unescL_skip (by simp)]; rw [unescL]
  by_cases h : c = 35 ∧ u.getLast? = some 92
  · obtain ⟨rfl, hu⟩ := h
    obtain ⟨v, rfl⟩ : ∃ v, u = v ++ [92] := by
      have hne : u ≠ [] := fun e => by rw [e] at hu; cases hu
      refine ⟨u.dropLast, ?_⟩
      have := List.dropLast_concat_getLast hne
      rw [List.getLast?_eq_some_getLast hne] at hu
      injection hu with hu
      rw [hu] at this
      exact this.symm
    rw [if_pos ⟨rfl, hu⟩]
    rw [List.append_assoc, unescL_app _ v _ (Nat.le_refl _) (by simp), unescL_app _ v [92] (Nat.le_refl _) (by simp), one]
    have : unescL ([92] ++ [35]) = [35] := by show unescL [92, 35] = _; rw [unescL_hit, unescL]
    rw [this]
    simp
  · rw [if_neg h, unescL_app _ u [c] (Nat.le_refl _) (fun hh => h ⟨by simpa using hh.2, hh.1⟩), one]
end Go.Proofs.YtoandhhkmkgmaaaGreatDoor
/- Contracts: line.bad, line.shown; the reference's blank, Shown, Trimmed. -/
namespace Go.Proofs.YtoandhhkmkgmaaaGreatDoor
open Go.RowKit

/-- A text by its bytes. -/
structure StrIsL (b : ByteArray) (s : List UInt8) : Prop where
  data : b.data.toList = s
  size : b.size = s.length
theorem strIsL (s : List UInt8) : StrIsL ⟨s.toArray⟩ s := ⟨rfl, rfl⟩
theorem StrIsL.at_ {b : ByteArray} {s : List UInt8} (h : StrIsL b s) {k : Nat} (hk : k < b.size) : s[k]? = some b[k] := by
  rw [← h.data]
  have h1 : k < b.data.size := hk
  rw [Array.getElem?_toList, Array.getElem?_eq_getElem h1]
  rfl
theorem neK {c n : UInt8} (h : c ≠ n) : (((c.toNat : Nat) : Int) != ((n.toNat : Nat) : Int)) = true := by
  have : c.toNat ≠ n.toNat := fun e => h (UInt8.toNat_inj.1 e)
  simp
  omega
theorem eqK {c n : UInt8} (h : c ≠ n) : (((c.toNat : Nat) : Int) == ((n.toNat : Nat) : Int)) = false := by
  have : c.toNat ≠ n.toNat := fun e => h (UInt8.toNat_inj.1 e)
  simp
  omega
theorem measL {q m : Nat} (h : q < m) : m - (intOf (.int .i64 ((q : Int) + 1))).toNat < m - (intOf (.int .i64 (q : Int))).toNat := by
  simp only [intOf]
  omega
theorem take_snocL {α : Type} {s : List α} {i : Nat} {c : α} (h : s[i]? = some c) : s.take (i + 1) = s.take i ++ [c] := by rw [List.take_add_one, h]; rfl
theorem cat_bytesL (x y : List UInt8) : (⟨x.toArray⟩ : ByteArray) ++ ⟨y.toArray⟩ = ⟨(x ++ y).toArray⟩ := by
  apply ByteArray.ext
  simp
theorem ext_one {b : ByteArray} {s : List UInt8} (h : StrIsL b s) {i : Nat} {c : UInt8} (hc : s[i]? = some c) : b.extract i (i + 1) = ⟨#[c]⟩ := by
  have h1 := Lib.extract_data b i (i + 1)
  rw [h.data] at h1
  have h2 : (s.drop i).take (i + 1 - i) = [c] := by
    obtain ⟨hi, hx⟩ := List.getElem?_eq_some_iff.1 hc
    rw [List.drop_eq_getElem_cons hi, hx, show i + 1 - i = 1 by omega]
    rfl
  rw [h2] at h1
  calc b.extract i (i + 1) = ⟨(b.extract i (i + 1)).data.toList.toArray⟩ := rfl
    _ = _ := by rw [h1]
set_option maxRecDepth 100000 in
theorem rBlank_any (c : UInt8) (w : World) : Calls Tryz.prog 153 #[.int .u8 (c.toNat : Int)] w fun e w' => e = .returned (.bool (blankB c)) ∧ w = w' := by
  by_cases h32 : c = 32
  · subst h32
    go_enter Tryz.func153, Tryz.ntmps153
    go_wp2_with fail
    go_ret
    exact ⟨rfl, rfl⟩
  · have k32 : ((c.toNat : Int) == 32) = false := eqK h32
    by_cases h9 : c = 9
    · subst h9
      go_enter Tryz.func153, Tryz.ntmps153
      go_wp2_with fail
      go_ret
      exact ⟨rfl, rfl⟩
    · have k9 : ((c.toNat : Int) == 9) = false := eqK h9
      have HB : Hid (blankB c = false) := Lib.hid (by unfold blankB; simp [h32, h9])
      clear h32 h9
      go_enter Tryz.func153, Tryz.ntmps153
      go_wp2_with fail
      go_ret
      exact ⟨by rw [HB.out]; rfl, rfl⟩
theorem rBlank_is (c : UInt8) (w : World) {v : Bool} (h : blankB c = v) : Calls Tryz.prog 153 #[.int .u8 (c.toNat : Int)] w fun e w' => e = .returned (.bool v) ∧ w = w' := by
  subst h
  exact rBlank_any c w
theorem badB_cases (c : UInt8) : (badB c = true ∧ 126 < c.toNat) ∨ (badB c = true ∧ c.toNat ≤ 126 ∧ c.toNat < 32 ∧ c ≠ 9 ∧ c ≠ 10) ∨ (badB c = false ∧ c = 9) ∨ (badB c = false ∧ c = 10) ∨ (badB c = false ∧ 32 ≤ c.toNat ∧ c.toNat ≤ 126) := by
  have key : ∀ n : Fin 256, (badB (UInt8.ofNat n.val) = true ∧ 126 < n.val) ∨ (badB (UInt8.ofNat n.val) = true ∧ n.val ≤ 126 ∧ n.val < 32 ∧ UInt8.ofNat n.val ≠ 9 ∧ UInt8.ofNat n.val ≠ 10) ∨ (badB (UInt8.ofNat n.val) = false ∧ UInt8.ofNat n.val = 9) ∨ (badB (UInt8.ofNat n.val) = false ∧ UInt8.ofNat n.val = 10) ∨ (badB (UInt8.ofNat n.val) = false ∧ 32 ≤ n.val ∧ n.val ≤ 126) := by decide +kernel
  have h := key ⟨c.toNat, c.toNat_lt⟩
  have e : UInt8.ofNat c.toNat = c := by simp
  simp only [e] at h
  exact h
set_option maxRecDepth 100000 in
set_option maxHeartbeats 1000000 in
theorem lnBad_any (s : List UInt8) (hl : s.length ≤ 9223372036854775807) (w : World) : Calls Tryz.prog 167 #[.string ⟨s.toArray⟩] w fun e w' => e = .returned (.bool (s.any badB)) ∧ w = w' := by
  have HS := Lib.hid (strIsL s)
  generalize (⟨s.toArray⟩ : ByteArray) = b at *
  have hsz : b.size = s.length := HS.out.size
  have HSZ := Lib.hid hsz
  have hbs : b.size ≤ 9223372036854775807 := by omega
  clear hsz hl
  go_enter Tryz.func167, Tryz.ntmps167
  go_wp2_with fail
  go_loop [7] (fun x => ∃ i : Nat, x = .int .i64 (i : Int) ∧ i ≤ b.size ∧ Hid ((s.take i).any badB = false)) (fun x => b.size - (intOf x).toNat)
  case atStart => exact ⟨0, rfl, by omega, Lib.hid rfl⟩
  case round =>
    obtain ⟨i, rfl, hi, HA⟩ := hrel
    by_cases hlt : i < b.size
    · have HC := Lib.hid (HS.out.at_ hlt)
      have i0 : (i : Int) < (b.size : Int) := by omega
      have hcs := badB_cases b[i]
      have HT := Lib.hid (take_snocL (HS.out.at_ hlt))
      rcases hcs with ⟨hb, h1⟩ | ⟨hb, h1, h2, h3, h4⟩ | ⟨hb, h1⟩ | ⟨hb, h1⟩ | ⟨hb, h1, h2⟩
      · have HY : Hid (s.any badB = true) := Lib.hid (List.any_eq_true.2 ⟨_, List.mem_of_getElem? HC.out, hb⟩)
        clear hb
        go_wp2_with fail
        go_ret
        exact ⟨by rw [HY.out]; rfl, rfl⟩
      · have HY : Hid (s.any badB = true) := Lib.hid (List.any_eq_true.2 ⟨_, List.mem_of_getElem? HC.out, hb⟩)
        have k9 : ((b[i].toNat : Int) != 9) = true := neK h3
        have k10 : ((b[i].toNat : Int) != 10) = true := neK h4
        clear hb h3 h4
        go_wp2_with fail
        go_ret
        exact ⟨by rw [HY.out]; rfl, rfl⟩
      all_goals
        have HA2 : Hid ((s.take (i + 1)).any badB = false) := Lib.hid (by rw [HT.out, List.any_append, HA.out]; simp [hb])
        clear hb
      · have k9 : ((b[i].toNat : Int) != 9) = false := by rw [h1]; rfl
        have l1 : ¬ 126 < b[i].toNat := by rw [h1]; decide
        have l2 : b[i].toNat < 32 := by rw [h1]; decide
        clear h1
        go_wp2_with fail
        exact ⟨⟨i + 1, rfl, by omega, HA2⟩, measL hlt⟩
      · have k9 : ((b[i].toNat : Int) != 9) = true := by rw [h1]; rfl
        have k10 : ((b[i].toNat : Int) != 10) = false := by rw [h1]; rfl
        have l1 : ¬ 126 < b[i].toNat := by rw [h1]; decide
        have l2 : b[i].toNat < 32 := by rw [h1]; decide
        clear h1
        go_wp2_with fail
        exact ⟨⟨i + 1, rfl, by omega, HA2⟩, measL hlt⟩
      · have l1 : ¬ 126 < b[i].toNat := by omega
        have l2 : ¬ b[i].toNat < 32 := by omega
        clear h1 h2
        go_wp2_with fail
        exact ⟨⟨i + 1, rfl, by omega, HA2⟩, measL hlt⟩
    · obtain rfl : i = b.size := by omega
      have HY : Hid (s.any badB = false) := Lib.hid (by have h := HA.out; rwa [List.take_of_length_le (by rw [HSZ.out]; exact Nat.le_refl _)] at h)
      go_wp2_with fail
      go_ret
      exact ⟨by rw [HY.out]; rfl, rfl⟩
end Go.Proofs.YtoandhhkmkgmaaaGreatDoor
/- Contracts: strings.ReplaceAll, Trim at blanks; line.shown, line.cut; the reference's Trimmed. -/
namespace Go.Proofs.YtoandhhkmkgmaaaGreatDoor
open Go.RowKit

theorem below_newL {a w w' : World} (h : Below a.heap.size a w) (k : Below w.heap.size w w') : Below a.heap.size a w' := h.trans (k.mono h.size)
theorem countFrom_le (sub : List UInt8) : ∀ (f : Nat) (s : List UInt8), Lib.countFrom sub f s ≤ f
  | 0, _ => Nat.le_refl _
  | f + 1, s => by
    rw [Lib.countFrom]
    have := countFrom_le sub f (s.drop ((Lib.index s sub).toNat + sub.length))
    split <;> omega
theorem count_le (s sub : List UInt8) : Lib.count s sub ≤ s.length + 1 := countFrom_le sub _ s
theorem sReplace_any (s old new : List UInt8) (m : Int) (w : World) (hl : s.length ≤ 1048576) (ho : 1 ≤ old.length) (hn : new.length ≤ 4) (hm : w.cell? ⟨1, 0, none⟩ = some (.int .i64 m)) :
    Calls Tryz.prog 220 #[.string ⟨s.toArray⟩, .string ⟨old.toArray⟩, .string ⟨new.toArray⟩] w fun e w' => e = .returned (.string ⟨(Lib.replaceAll s old new).toArray⟩) ∧ Below w.heap.size w w' := by
  have hc : Lib.countB ⟨s.toArray⟩ ⟨old.toArray⟩ ≤ s.length + 1 := count_le s old
  have hmul : Lib.countB ⟨s.toArray⟩ ⟨old.toArray⟩ * new.length ≤ (s.length + 1) * 4 := Nat.mul_le_mul hc hn
  exact Tryz.strings_ReplaceAll ⟨s.toArray⟩ ⟨old.toArray⟩ ⟨new.toArray⟩ m w (show s.length < _ by omega) hm ho (show s.length + Lib.countB ⟨s.toArray⟩ ⟨old.toArray⟩ * new.length ≤ _ by omega)
theorem blanks_ascii : ∀ (j : Nat) (b : UInt8), (⟨#[32, 9]⟩ : ByteArray).data.toList[j]? = some b → b.toNat < 128 := by
  intro j b h
  match j, h with
  | 0, h => simp at h; subst h; decide
  | 1, h => simp at h; subst h; decide
theorem sTrimL_any (s : List UInt8) (w : World) : Calls Tryz.prog 203 #[.string ⟨s.toArray⟩, .string ⟨#[32, 9]⟩] w fun e w' => e = .returned (.string ⟨(trimLL s).toArray⟩) ∧ Below w.heap.size w w' := by
  have h := Any.strings_TrimLeft_laid Tryz.lays161 (by kernel_rfl) ⟨s.toArray⟩ ⟨#[32, 9]⟩ w (by decide) blanks_ascii
  rw [show (⟨s.toArray⟩ : ByteArray).data.toList = s from rfl, show (⟨#[32, 9]⟩ : ByteArray).data.toList = [32, 9] from rfl, trimLeft_eq] at h
  exact h
theorem sTrimR_any (s : List UInt8) (hl : s.length ≤ 9223372036854775807) (w : World) : Calls Tryz.prog 219 #[.string ⟨s.toArray⟩, .string ⟨#[32, 9]⟩] w fun e w' => e = .returned (.string ⟨(trimRL s).toArray⟩) ∧ Below w.heap.size w w' := by
  have h := Any.strings_TrimRight_laid Tryz.lays162 (by kernel_rfl) ⟨s.toArray⟩ ⟨#[32, 9]⟩ w hl (by decide) blanks_ascii
  rw [show (⟨s.toArray⟩ : ByteArray).data.toList = s from rfl, show (⟨#[32, 9]⟩ : ByteArray).data.toList = [32, 9] from rfl, trimRight_eq] at h
  exact h
theorem trimRL_cons (c : UInt8) (t : List UInt8) : trimRL (c :: t) = if (trimRL t).isEmpty then (if blankB c then [] else [c]) else c :: trimRL t := by
  unfold trimRL
  rw [List.reverse_cons, List.dropWhile_append, List.isEmpty_reverse]
  split
  · cases h : blankB c <;> simp [List.dropWhile, h]
  · simp
theorem trim_comm : ∀ s : List UInt8, trimLL (trimRL s) = trimRL (trimLL s)
  | [] => rfl
  | c :: t => by
    have ih := trim_comm t
    have hl : trimLL (c :: t) = if blankB c then trimLL t else c :: t := by unfold trimLL; rw [List.dropWhile_cons]
    rw [trimRL_cons, hl]
    cases hb : blankB c with
    | true =>
      simp only [if_true]
      rw [← ih]
      cases he : (trimRL t).isEmpty with
      | true =>
        rw [List.isEmpty_iff.1 he]
        rfl
      | false =>
        simp only [Bool.false_eq_true, if_false]
        unfold trimLL
        rw [List.dropWhile_cons, hb]
        rfl
    | false =>
      simp only [Bool.false_eq_true, if_false]
      rw [trimRL_cons, hb]
      cases he : (trimRL t).isEmpty with
      | true =>
        simp only [if_true, Bool.false_eq_true, if_false]
        unfold trimLL
        rw [List.dropWhile_cons, hb]
        rfl
      | false =>
        simp only [Bool.false_eq_true, if_false]
        unfold trimLL
        rw [List.dropWhile_cons, hb]
        rfl
theorem sTrim_any (s : List UInt8) (hl : s.length ≤ 9223372036854775807) (w : World) : Calls Tryz.prog 140 #[.string ⟨s.toArray⟩, .string ⟨#[32, 9]⟩] w fun e w' => e = .returned (.string ⟨(trimBL s).toArray⟩) ∧ Below w.heap.size w w' := by
  have h := Any.strings_Trim_laid Tryz.lays160 (by kernel_rfl) ⟨s.toArray⟩ ⟨#[32, 9]⟩ w hl (by decide) blanks_ascii
  rw [show (⟨s.toArray⟩ : ByteArray).data.toList = s from rfl, show (⟨#[32, 9]⟩ : ByteArray).data.toList = [32, 9] from rfl] at h
  have e : Lib.trimS s [32, 9] = trimBL s := by
    unfold Lib.trimS trimBL
    rw [trimRight_eq, trimLeft_eq, trim_comm]
  rw [e] at h
  exact h
end Go.Proofs.YtoandhhkmkgmaaaGreatDoor
/- Contracts: line.cut; the reference's Trimmed, aside. -/
namespace Go.Proofs.YtoandhhkmkgmaaaGreatDoor
open Go.RowKit

theorem ext_takeL {b : ByteArray} {s : List UInt8} (h : StrIsL b s) (i : Nat) : b.extract 0 i = ⟨(s.take i).toArray⟩ := by
  have h1 := Lib.extract_data b 0 i
  rw [h.data] at h1
  simp only [List.drop_zero, Nat.sub_zero] at h1
  calc b.extract 0 i = ⟨(b.extract 0 i).data.toList.toArray⟩ := rfl
    _ = _ := by rw [h1]
theorem ext_dropL {b : ByteArray} {s : List UInt8} (h : StrIsL b s) (i : Nat) : b.extract i b.size = ⟨(s.drop i).toArray⟩ := by
  have h1 := Lib.extract_data b i b.size
  rw [h.data, h.size] at h1
  rw [List.take_of_length_le (by rw [List.length_drop]; omega)] at h1
  rw [← h.size] at h1
  calc b.extract i b.size = ⟨(b.extract i b.size).data.toList.toArray⟩ := rfl
    _ = _ := by rw [h1]
/-- No stop ahead of i. -/
def NoStop (s : List UInt8) (i : Nat) : Prop := ∀ j, j < i → ¬ (s[j]? = some 35 ∧ (if j = 0 then (none : Option UInt8) else s[j - 1]?) ≠ some 92)
theorem NoStop.succ {s : List UInt8} {i : Nat} (h : NoStop s i) (hi : ¬ (s[i]? = some 35 ∧ (if i = 0 then (none : Option UInt8) else s[i - 1]?) ≠ some 92)) : NoStop s (i + 1) := fun j hj => by
  by_cases hji : j = i
  · subst hji; exact hi
  · exact h j (by omega)
theorem aside_of {s : List UInt8} {i : Nat} (h : NoStop s i) (hi : i ≤ s.length) (he : i = s.length ∨ (s[i]? = some 35 ∧ (if i = 0 then (none : Option UInt8) else s[i - 1]?) ≠ some 92)) : asideL s = trimRL (unescL (s.take i)) := by
  unfold asideL
  rw [takeA_eq s none i hi h he]
theorem unescL_len : ∀ (n : Nat) (s : List UInt8), s.length ≤ n → (unescL s).length ≤ s.length := by
  intro n
  induction n with
  | zero =>
    intro s hn
    obtain rfl : s = [] := List.length_eq_zero_iff.1 (by omega)
    simp [unescL]
  | succ n ih =>
    intro s hn
    cases s with
    | nil => simp [unescL]
    | cons c t =>
      simp only [List.length_cons] at hn ⊢
      by_cases h : c = 92 ∧ t.head? = some 35
      · obtain ⟨rfl, ht⟩ := h
        cases t with
        | nil => cases ht
        | cons d t' =>
          simp at ht
          subst ht
          rw [unescL_hit]
          have := ih t' (by simp at hn; omega)
          simp
          omega
      · rw [unescL_skip h]
        have := ih t (by omega)
        simp
        omega
set_option maxRecDepth 100000 in
set_option maxHeartbeats 2000000 in
theorem lnCut_any (s : List UInt8) (m : Int) (w : World) (hl : s.length ≤ 1048576) (hm : w.cell? ⟨1, 0, none⟩ = some (.int .i64 m)) :
    Calls Tryz.prog 204 #[.string ⟨s.toArray⟩] w fun e w' => e = .returned (.string ⟨(asideL s).toArray⟩) ∧ Below w.heap.size w w' := by
  have HM := Lib.hid hm
  have HRT := Lib.hid (fun (i : Nat) => sReplace_any (s.take i) [92, 35] [35] m w (by rw [List.length_take]; omega) (by decide) (by decide) hm)
  have HTT := Lib.hid (fun (i : Nat) (W : World) => sTrimR_any (unescL (s.take i)) (by have := unescL_len _ (s.take i) (Nat.le_refl _); rw [List.length_take] at this; omega) W)
  have HS := Lib.hid (strIsL s)
  generalize (⟨s.toArray⟩ : ByteArray) = b at *
  have hsz : b.size = s.length := HS.out.size
  have HSZ := Lib.hid hsz
  have hbs : b.size ≤ 1048576 := by omega
  clear hsz hl hm
  go_enter Tryz.func204, Tryz.ntmps204
  go_wp2_with fail
  go_loop [0, 6] (fun y x => ∃ i : Nat, y = .string b ∧ x = .int .i64 (i : Int) ∧ i ≤ b.size ∧ Hid (NoStop s i)) (fun _ x => b.size - (intOf x).toNat)
  case atStart => exact ⟨0, rfl, rfl, by omega, Lib.hid (fun j hj => by omega)⟩
  case round =>
    obtain ⟨i, rfl, rfl, hi, HNS⟩ := hrel
    by_cases hlt : i < b.size
    · have HC := Lib.hid (HS.out.at_ hlt)
      have i0 : (i : Int) < (b.size : Int) := by omega
      by_cases h35 : b[i] = 35
      · have k35 : ((b[i].toNat : Int) == 35) = true := by rw [h35]; rfl
        have HC2 : Hid (s[i]? = some 35) := Lib.hid (by rw [HC.out, h35])
        by_cases h0 : i = 0
        · subst h0
          have HAS := Lib.hid (aside_of HNS.out (by rw [← HSZ.out]; omega) (.inr ⟨HC2.out, by simp⟩))
          have hsg := ext_takeL HS.out 0
          have HR0 := Lib.hid (HRT.out 0)
          have HT0 := Lib.hid (HTT.out 0)
          rw [replace_unesc, show (⟨(s.take 0).toArray⟩ : ByteArray) = ByteArray.empty from rfl] at HR0
          clear h35 HRT HTT
          go_wp2_with fail
          refine HR0.out.mono ?_
          rintro e w2 ⟨rfl, hb2⟩
          have HB2 := Lib.hid hb2
          clear hb2
          go_wp2_with fail
          refine (HT0.out _).mono ?_
          rintro e w3 ⟨rfl, hb3⟩
          have HB3 := Lib.hid (below_newL HB2.out hb3)
          clear hb3
          go_wp2_with fail
          go_ret
          exact ⟨by rw [HAS.out]; rfl, HB3.out⟩
        · have hi1 : i - 1 < b.size := by omega
          have HP := Lib.hid (HS.out.at_ hi1)
          have e1 : (i : Int) - 1 = ((i - 1 : Nat) : Int) := by omega
          have k0 : ((i : Int) == 0) = false := by simp; omega
          by_cases h92 : b[i - 1] = 92
          · have k92 : ((b[i - 1].toNat : Int) != 92) = false := by rw [h92]; rfl
            have HNS2 := Lib.hid (HNS.out.succ (fun hh => hh.2 (by rw [if_neg h0, HP.out, h92])))
            have HI1 := Lib.hid (show i + 1 ≤ b.size from hlt)
            have HI2 := Lib.hid (measL hlt)
            clear h35 h92
            go_wp2_with fail
            exact ⟨⟨i + 1, rfl, rfl, HI1.out, HNS2⟩, HI2.out⟩
          · have k92 : ((b[i - 1].toNat : Int) != 92) = true := neK h92
            have HAS := Lib.hid (aside_of HNS.out (by rw [← HSZ.out]; omega) (.inr ⟨HC2.out, by rw [if_neg h0, HP.out]; exact fun e => h92 (by injection e)⟩))
            have hsg := ext_takeL HS.out i
            have HR0 := Lib.hid (HRT.out i)
            have HT0 := Lib.hid (HTT.out i)
            rw [replace_unesc] at HR0
            clear h35 h92 HRT HTT
            generalize s.take i = u at *
            go_wp2_with fail
            refine HR0.out.mono ?_
            rintro e w2 ⟨rfl, hb2⟩
            have HB2 := Lib.hid hb2
            clear hb2
            go_wp2_with fail
            refine (HT0.out _).mono ?_
            rintro e w3 ⟨rfl, hb3⟩
            have HB3 := Lib.hid (below_newL HB2.out hb3)
            clear hb3
            go_wp2_with fail
            go_ret
            exact ⟨by rw [HAS.out]; rfl, HB3.out⟩
      · have k35 : ((b[i].toNat : Int) == 35) = false := eqK h35
        have HNS2 := Lib.hid (HNS.out.succ (fun hh => h35 (by have := hh.1; rw [HC.out] at this; injection this)))
        clear h35
        go_wp2_with fail
        exact ⟨⟨i + 1, rfl, rfl, by omega, HNS2⟩, measL hlt⟩
    · obtain rfl : i = b.size := by omega
      have HAS := Lib.hid (aside_of HNS.out (by rw [HSZ.out]; exact Nat.le_refl _) (.inl HSZ.out))
      have HR0 := Lib.hid (HRT.out b.size)
      have HT0 := Lib.hid (HTT.out b.size)
      have HBE : Hid ((⟨(s.take b.size).toArray⟩ : ByteArray) = b) := Lib.hid (by
        rw [List.take_of_length_le (by rw [HSZ.out]; exact Nat.le_refl _)]
        have h := HS.out.data
        rw [← h])
      rw [replace_unesc, HBE.out] at HR0
      clear HRT HTT
      go_wp2_with fail
      refine HR0.out.mono ?_
      rintro e w2 ⟨rfl, hb2⟩
      have HB2 := Lib.hid hb2
      clear hb2
      go_wp2_with fail
      refine (HT0.out _).mono ?_
      rintro e w3 ⟨rfl, hb3⟩
      have HB3 := Lib.hid (below_newL HB2.out hb3)
      clear hb3
      go_wp2_with fail
      go_ret
      exact ⟨by rw [HAS.out]; rfl, HB3.out⟩
theorem trimLL_cons (c : UInt8) (t : List UInt8) : trimLL (c :: t) = if blankB c then trimLL t else c :: t := by unfold trimLL; rw [List.dropWhile_cons]
theorem trimRL_snoc (u : List UInt8) (c : UInt8) : trimRL (u ++ [c]) = if blankB c then trimRL u else u ++ [c] := by
  unfold trimRL
  rw [List.reverse_append, List.reverse_singleton, List.singleton_append, List.dropWhile_cons]
  split
  · rfl
  · simp
theorem ext_tail (a : UInt8) (t : List UInt8) : (⟨(a :: t).toArray⟩ : ByteArray).extract 1 (t.length + 1) = ⟨t.toArray⟩ := by
  have h := ext_dropL (strIsL (a :: t)) 1
  exact h
theorem snoc_of {s : List UInt8} (h : s ≠ []) : ∃ u c, s = u ++ [c] := ⟨_, _, (List.dropLast_concat_getLast h).symm⟩
theorem last_at {b : ByteArray} {u : List UInt8} {c : UInt8} (h : StrIsL b (u ++ [c])) (hk : u.length < b.size) : b[u.length] = c := by
  have h1 := h.at_ hk
  have h2 : (u ++ [c])[u.length]? = some c := by simp
  rw [h2] at h1
  injection h1 with h1
  exact h1.symm
def strLenL (v : Value) : Nat := match v with | .string s => s.size | _ => 0
set_option maxRecDepth 100000 in
set_option maxHeartbeats 2000000 in
theorem rTrimmed_any (s : List UInt8) (hl : s.length ≤ 1048640) (w : World) : Calls Tryz.prog 87 #[.string ⟨s.toArray⟩] w fun e w' => e = .returned (.string ⟨(trimBL s).toArray⟩) ∧ w = w' := by
  go_enter Tryz.func87, Tryz.ntmps87
  go_wp2_with fail
  go_loop [0] (fun x => ∃ t : List UInt8, x = .string ⟨t.toArray⟩ ∧ t.length ≤ 1048640 ∧ Hid (trimLL s = trimLL t)) (fun x => strLenL x)
  case atStart => exact ⟨s, rfl, hl, Lib.hid rfl⟩
  case round =>
    obtain ⟨t, rfl, ht, HT⟩ := hrel
    cases t with
    | nil =>
      go_wp2_with fail
      go_loop [0] (fun x => ∃ t : List UInt8, x = .string ⟨t.toArray⟩ ∧ t.length ≤ 1048640 ∧ Hid (trimBL s = trimRL t)) (fun x => strLenL x)
      case atStart => exact ⟨[], rfl, by simp, Lib.hid (by unfold trimBL; rw [HT.out]; rfl)⟩
      case round =>
        clear HT
        obtain ⟨t, rfl, ht, HT⟩ := hrel
        by_cases h0 : t = []
        · subst h0
          go_wp2_with fail
          go_ret
          exact ⟨by rw [HT.out]; rfl, rfl⟩
        · obtain ⟨u, d, rfl⟩ := snoc_of h0
          have HS := Lib.hid (strIsL (u ++ [d]))
          have hsz : (⟨(u ++ [d]).toArray⟩ : ByteArray).size = u.length + 1 := by rw [HS.out.size]; simp
          have hul : u.length ≤ 1048639 := by simp at ht; omega
          have HD : Hid ((⟨(u ++ [d]).toArray⟩ : ByteArray).toList.isEmpty = false) := Lib.hid (by rw [Lib.toList_data]; simp)
          have HX := Lib.hid (trimRL_snoc u d)
          have HE : Hid (trimRL (u ++ [d]) = u ++ [d] → (⟨(trimRL (u ++ [d])).toArray⟩ : ByteArray) = ⟨(u ++ [d]).toArray⟩) := Lib.hid (fun h => by rw [h])
          clear ht h0
          cases hb : blankB d with
          | true =>
            rw [hb] at HX
            have HBL := Lib.hid (fun W => rBlank_is d W hb)
            have HT2 : Hid (trimBL s = trimRL u) := Lib.hid (by rw [HT.out, HX.out]; rfl)
            have hsl := ext_takeL HS.out u.length
            rw [List.take_left'  rfl] at hsl
            have HMS : Hid (strLenL (.string ⟨u.toArray⟩) < strLenL (.string ⟨(u ++ [d]).toArray⟩)) := Lib.hid (by show u.length < (u ++ [d]).length; simp)
            generalize (⟨(u ++ [d]).toArray⟩ : ByteArray) = b at *
            have g1 : ∀ h, b[u.length]'h = d := fun h => last_at HS.out h
            have e1 : (b.size : Int) - 1 = (u.length : Int) := by omega
            have l1 : (u.length : Int) < (b.size : Int) := by omega
            have l2 : u.length < b.size := by omega
            have l3 : u.length ≤ b.size := by omega
            have he := HD.out
            clear hb HE
            go_wp2_with fail
            refine (HBL.out _).mono ?_
            rintro e w2 ⟨rfl, rfl⟩
            go_wp2_with fail
            exact ⟨⟨u, rfl, by omega, HT2⟩, HMS.out⟩
          | false =>
            rw [hb] at HX
            have HBL := Lib.hid (fun W => rBlank_is d W hb)
            have HT2 : Hid ((⟨(trimBL s).toArray⟩ : ByteArray) = ⟨(u ++ [d]).toArray⟩) := Lib.hid (by rw [HT.out]; exact HE.out HX.out)
            generalize (⟨(u ++ [d]).toArray⟩ : ByteArray) = b at *
            have g1 : ∀ h, b[u.length]'h = d := fun h => last_at HS.out h
            have e1 : (b.size : Int) - 1 = (u.length : Int) := by omega
            have l1 : (u.length : Int) < (b.size : Int) := by omega
            have l2 : u.length < b.size := by omega
            have he := HD.out
            clear hb HE
            go_wp2_with fail
            refine (HBL.out _).mono ?_
            rintro e w2 ⟨rfl, rfl⟩
            go_wp2_with fail
            go_ret
            exact ⟨by rw [HT2.out]; rfl, rfl⟩
    | cons c t' =>
      have g0 : ∀ h, (⟨(c :: t').toArray⟩ : ByteArray)[0]'h = c := fun _ => rfl
      have hsl := ext_tail c t'
      cases hb : blankB c with
      | true =>
        have HBL := Lib.hid (fun W => rBlank_is c W hb)
        have HT2 : Hid (trimLL s = trimLL t') := Lib.hid (by rw [HT.out, trimLL_cons, hb]; rfl)
        have hl2 : t'.length ≤ 1048640 := by simp at ht; omega
        clear hb ht
        go_wp2_with fail
        refine (HBL.out _).mono ?_
        rintro e w2 ⟨rfl, rfl⟩
        go_wp2_with fail
        exact ⟨⟨t', rfl, hl2, HT2⟩, Nat.lt_succ_self _⟩
      | false =>
        have HBL := Lib.hid (fun W => rBlank_is c W hb)
        have HT : Hid (trimLL s = c :: t') := Lib.hid (by rw [HT.out, trimLL_cons, hb]; rfl)
        have hl2 : (c :: t').length ≤ 1048640 := ht
        clear hb ht
        go_wp2_with fail
        refine (HBL.out _).mono ?_
        rintro e w2 ⟨rfl, rfl⟩
        clear g0 hsl
        go_wp2_with fail
        go_loop [0] (fun x => ∃ t : List UInt8, x = .string ⟨t.toArray⟩ ∧ t.length ≤ 1048640 ∧ Hid (trimBL s = trimRL t)) (fun x => strLenL x)
        case atStart => exact ⟨c :: t', rfl, hl2, Lib.hid (by unfold trimBL; rw [HT.out])⟩
        case round =>
          clear HT
          obtain ⟨t, rfl, ht, HT⟩ := hrel
          by_cases h0 : t = []
          · subst h0
            go_wp2_with fail
            go_ret
            exact ⟨by rw [HT.out]; rfl, rfl⟩
          · obtain ⟨u, d, rfl⟩ := snoc_of h0
            have HS := Lib.hid (strIsL (u ++ [d]))
            have hsz : (⟨(u ++ [d]).toArray⟩ : ByteArray).size = u.length + 1 := by rw [HS.out.size]; simp
            have hul : u.length ≤ 1048639 := by simp at ht; omega
            have HD : Hid ((⟨(u ++ [d]).toArray⟩ : ByteArray).toList.isEmpty = false) := Lib.hid (by rw [Lib.toList_data]; simp)
            have HX := Lib.hid (trimRL_snoc u d)
            have HE : Hid (trimRL (u ++ [d]) = u ++ [d] → (⟨(trimRL (u ++ [d])).toArray⟩ : ByteArray) = ⟨(u ++ [d]).toArray⟩) := Lib.hid (fun h => by rw [h])
            clear ht h0
            cases hb : blankB d with
            | true =>
              rw [hb] at HX
              have HBL := Lib.hid (fun W => rBlank_is d W hb)
              have HT2 : Hid (trimBL s = trimRL u) := Lib.hid (by rw [HT.out, HX.out]; rfl)
              have hsl := ext_takeL HS.out u.length
              rw [List.take_left'  rfl] at hsl
              have HMS : Hid (strLenL (.string ⟨u.toArray⟩) < strLenL (.string ⟨(u ++ [d]).toArray⟩)) := Lib.hid (by show u.length < (u ++ [d]).length; simp)
              generalize (⟨(u ++ [d]).toArray⟩ : ByteArray) = b at *
              have g1 : ∀ h, b[u.length]'h = d := fun h => last_at HS.out h
              have e1 : (b.size : Int) - 1 = (u.length : Int) := by omega
              have l1 : (u.length : Int) < (b.size : Int) := by omega
              have l2 : u.length < b.size := by omega
              have l3 : u.length ≤ b.size := by omega
              have he := HD.out
              clear hb HE
              go_wp2_with fail
              refine (HBL.out _).mono ?_
              rintro e w2 ⟨rfl, rfl⟩
              go_wp2_with fail
              exact ⟨⟨u, rfl, by omega, HT2⟩, HMS.out⟩
            | false =>
              rw [hb] at HX
              have HBL := Lib.hid (fun W => rBlank_is d W hb)
              have HT2 : Hid ((⟨(trimBL s).toArray⟩ : ByteArray) = ⟨(u ++ [d]).toArray⟩) := Lib.hid (by rw [HT.out]; exact HE.out HX.out)
              generalize (⟨(u ++ [d]).toArray⟩ : ByteArray) = b at *
              have g1 : ∀ h, b[u.length]'h = d := fun h => last_at HS.out h
              have e1 : (b.size : Int) - 1 = (u.length : Int) := by omega
              have l1 : (u.length : Int) < (b.size : Int) := by omega
              have l2 : u.length < b.size := by omega
              have he := HD.out
              clear hb HE
              go_wp2_with fail
              refine (HBL.out _).mono ?_
              rintro e w2 ⟨rfl, rfl⟩
              go_wp2_with fail
              go_ret
              exact ⟨by rw [HT2.out]; rfl, rfl⟩
end Go.Proofs.YtoandhhkmkgmaaaGreatDoor
/- Contract: the reference's aside. -/
namespace Go.Proofs.YtoandhhkmkgmaaaGreatDoor
open Go.RowKit

theorem unesc_take_len (s : List UInt8) (i : Nat) (hl : s.length ≤ 1048576) : (unescL (s.take i)).length ≤ 1048576 := by
  have h := unescL_len _ (s.take i) (Nat.le_refl _)
  rw [List.length_take] at h
  omega
set_option maxRecDepth 100000 in
set_option maxHeartbeats 4000000 in
theorem rAside_any (s : List UInt8) (hl : s.length ≤ 1048576) (w : World) : Calls Tryz.prog 170 #[.string ⟨s.toArray⟩] w fun e w' => e = .returned (.string ⟨(asideL s).toArray⟩) ∧ w = w' := by
  have HS1 := Lib.hid (strIsL s)
  have HUL := Lib.hid (fun i => unesc_take_len s i hl)
  generalize (⟨s.toArray⟩ : ByteArray) = b at *
  have hsz : b.size = s.length := HS1.out.size
  have HSZ := Lib.hid hsz
  have hbs : b.size ≤ 1048576 := by omega
  clear hsz hl
  go_enter Tryz.func170, Tryz.ntmps170
  go_wp2_with fail
  go_loop [3, 7] (fun y x => ∃ i : Nat, y = .string ⟨(unescL (s.take i)).toArray⟩ ∧ x = .int .i64 (i : Int) ∧ i ≤ b.size ∧ Hid (NoStop s i)) (fun _ x => b.size - (intOf x).toNat)
  case atStart => exact ⟨0, rfl, rfl, by omega, Lib.hid (fun j hj => by omega)⟩
  case round =>
    obtain ⟨i, rfl, rfl, hi, HNS⟩ := hrel
    by_cases hlt : i < b.size
    · obtain ⟨c, hc⟩ : ∃ c, c = b[i] := ⟨_, rfl⟩
      have g0 : ∀ h, b[i]'h = c := fun _ => hc.symm
      have HC : Hid (s[i]? = some c) := Lib.hid (by rw [hc]; exact HS1.out.at_ hlt)
      clear hc
      have i0 : (i : Int) < (b.size : Int) := by omega
      have i1 : (i : Int) + 1 ≤ (b.size : Int) := by omega
      have hsg := ext_one HS1.out HC.out
      have HTK := Lib.hid (take_snocL HC.out)
      have HI1 := Lib.hid (show i + 1 ≤ b.size from hlt)
      have HI2 := Lib.hid (measL hlt)
      have hTs : (⟨(unescL (s.take i)).toArray⟩ : ByteArray).size ≤ 1048576 := HUL.out i
      by_cases h35 : c = 35
      · have k35 : ((c.toNat : Int) == 35) = true := by rw [h35]; rfl
        have HC2 : Hid (s[i]? = some 35) := Lib.hid (by rw [HC.out, h35])
        by_cases h0 : i = 0
        · subst h0
          have HAS := Lib.hid (aside_of HNS.out (by omega) (.inr ⟨HC2.out, by simp⟩))
          clear h35 hsg
          go_wp2_with fail
          go_loop [3] (fun x => ∃ t : List UInt8, x = .string ⟨t.toArray⟩ ∧ t.length ≤ 1048576 ∧ Hid (asideL s = trimRL t)) (fun x => strLenL x)
          case atStart => exact ⟨unescL (s.take 0), rfl, HUL.out 0, HAS⟩
          case round =>
            obtain ⟨t, rfl, ht, HT⟩ := hrel
            by_cases h0 : t = []
            · subst h0
              go_wp2_with fail
              go_ret
              exact ⟨by rw [HT.out]; rfl, rfl⟩
            · obtain ⟨u, d, rfl⟩ := snoc_of h0
              have HS := Lib.hid (strIsL (u ++ [d]))
              have hsz : (⟨(u ++ [d]).toArray⟩ : ByteArray).size = u.length + 1 := by rw [HS.out.size]; simp
              have hul : u.length ≤ 1048575 := by simp at ht; omega
              have HD : Hid ((⟨(u ++ [d]).toArray⟩ : ByteArray).toList.isEmpty = false) := Lib.hid (by rw [Lib.toList_data]; simp)
              have HX := Lib.hid (trimRL_snoc u d)
              have HE : Hid (trimRL (u ++ [d]) = u ++ [d] → (⟨(trimRL (u ++ [d])).toArray⟩ : ByteArray) = ⟨(u ++ [d]).toArray⟩) := Lib.hid (fun h => by rw [h])
              clear ht h0
              cases hb : blankB d with
              | true =>
                rw [hb] at HX
                have HBL := Lib.hid (fun W => rBlank_is d W hb)
                have HT2 : Hid (asideL s = trimRL u) := Lib.hid (by rw [HT.out, HX.out]; rfl)
                have hsl := ext_takeL HS.out u.length
                rw [List.take_left'  rfl] at hsl
                have HMS : Hid (strLenL (.string ⟨u.toArray⟩) < strLenL (.string ⟨(u ++ [d]).toArray⟩)) := Lib.hid (by show u.length < (u ++ [d]).length; simp)
                generalize (⟨(u ++ [d]).toArray⟩ : ByteArray) = bz at *
                have g1 : ∀ h, bz[u.length]'h = d := fun h => last_at HS.out h
                have e1 : (bz.size : Int) - 1 = (u.length : Int) := by omega
                have l1 : (u.length : Int) < (bz.size : Int) := by omega
                have l2 : u.length < bz.size := by omega
                have l3 : u.length ≤ bz.size := by omega
                have he := HD.out
                clear hb HE
                go_wp2_with fail
                refine (HBL.out _).mono ?_
                rintro e w2 ⟨rfl, rfl⟩
                go_wp2_with fail
                exact ⟨⟨u, rfl, by omega, HT2⟩, HMS.out⟩
              | false =>
                rw [hb] at HX
                have HBL := Lib.hid (fun W => rBlank_is d W hb)
                have HT2 : Hid ((⟨(asideL s).toArray⟩ : ByteArray) = ⟨(u ++ [d]).toArray⟩) := Lib.hid (by rw [HT.out]; exact HE.out HX.out)
                generalize (⟨(u ++ [d]).toArray⟩ : ByteArray) = bz at *
                have g1 : ∀ h, bz[u.length]'h = d := fun h => last_at HS.out h
                have e1 : (bz.size : Int) - 1 = (u.length : Int) := by omega
                have l1 : (u.length : Int) < (bz.size : Int) := by omega
                have l2 : u.length < bz.size := by omega
                have he := HD.out
                clear hb HE
                go_wp2_with fail
                refine (HBL.out _).mono ?_
                rintro e w2 ⟨rfl, rfl⟩
                go_wp2_with fail
                go_ret
                exact ⟨by rw [HT2.out]; rfl, rfl⟩
        · have hi1 : i - 1 < b.size := by omega
          obtain ⟨pc, hpc⟩ : ∃ c, c = b[i - 1] := ⟨_, rfl⟩
          have g1 : ∀ h, b[i - 1]'h = pc := fun _ => hpc.symm
          have HP : Hid (s[i - 1]? = some pc) := Lib.hid (by rw [hpc]; exact HS1.out.at_ hi1)
          clear hpc
          have e1 : (i : Int) - 1 = ((i - 1 : Nat) : Int) := by omega
          have k0 : ((i : Int) == 0) = false := by simp; omega
          by_cases h92 : pc = 92
          · have k92 : ((pc.toNat : Int) != 92) = false := by rw [h92]; rfl
            have HNS2 := Lib.hid (HNS.out.succ (fun hh => hh.2 (by rw [if_neg h0, HP.out, h92])))
            have hU : unescL (s.take i) = unescL (s.take (i - 1)) ++ [92] := by
              have e : s.take i = s.take (i - 1) ++ [92] := by
                have := take_snocL HP.out
                rw [show i - 1 + 1 = i by omega, h92] at this
                exact this
              rw [e, unescL_snoc, if_neg (fun hh => absurd hh.1 (by decide))]
            have hU2 : unescL (s.take (i + 1)) = unescL (s.take (i - 1)) ++ [35] := by
              have hg : (s.take i).getLast? = some 92 := by
                have := take_snocL HP.out
                rw [show i - 1 + 1 = i by omega, h92] at this
                rw [this]; simp
              rw [HTK.out, h35, unescL_snoc, if_pos ⟨rfl, hg⟩, hU]
              simp
            have HVS := Lib.hid (strIsL (unescL (s.take (i - 1)) ++ [92]))
            rw [hU] at hTs ⊢
            have hsz2 : (⟨(unescL (s.take (i - 1)) ++ [92]).toArray⟩ : ByteArray).size = (unescL (s.take (i - 1))).length + 1 := by rw [HVS.out.size]; simp
            have hsl := ext_takeL HVS.out (unescL (s.take (i - 1))).length
            rw [List.take_left' rfl] at hsl
            have hcat := Lib.hid (show (⟨(unescL (s.take (i - 1))).toArray⟩ : ByteArray) ++ ⟨#[c]⟩ = ⟨(unescL (s.take (i + 1))).toArray⟩ by
              rw [hU2, h35]
              exact cat_bytesL _ [35])
            have hvl : (⟨(unescL (s.take (i - 1))).toArray⟩ : ByteArray).size = (unescL (s.take (i - 1))).length := rfl
            generalize (unescL (s.take (i - 1))).length = vl at *
            generalize (⟨(unescL (s.take (i - 1)) ++ [92]).toArray⟩ : ByteArray) = BT at *
            generalize (⟨(unescL (s.take (i - 1))).toArray⟩ : ByteArray) = BV at *
            have e2 : (BT.size : Int) - 1 = (vl : Int) := by omega
            have l3 : vl ≤ BT.size := by omega
            have hvs : BV.size ≤ 1048576 := by omega
            clear h35 h92 hU hU2 hvl hsz2
            go_wp2_with fail
            exact ⟨⟨i + 1, congrArg Value.string hcat.out, rfl, HI1.out, HNS2⟩, HI2.out⟩
          · have k92 : ((pc.toNat : Int) != 92) = true := neK h92
            have HAS := Lib.hid (aside_of HNS.out (by rw [← HSZ.out]; omega) (.inr ⟨HC2.out, by rw [if_neg h0, HP.out]; exact fun e => h92 (by injection e)⟩))
            clear h35 h92 hsg
            go_wp2_with fail
            go_loop [3] (fun x => ∃ t : List UInt8, x = .string ⟨t.toArray⟩ ∧ t.length ≤ 1048576 ∧ Hid (asideL s = trimRL t)) (fun x => strLenL x)
            case atStart => exact ⟨unescL (s.take i), rfl, HUL.out i, HAS⟩
            case round =>
              obtain ⟨t, rfl, ht, HT⟩ := hrel
              by_cases h0 : t = []
              · subst h0
                go_wp2_with fail
                go_ret
                exact ⟨by rw [HT.out]; rfl, rfl⟩
              · obtain ⟨u, d, rfl⟩ := snoc_of h0
                have HS := Lib.hid (strIsL (u ++ [d]))
                have hsz : (⟨(u ++ [d]).toArray⟩ : ByteArray).size = u.length + 1 := by rw [HS.out.size]; simp
                have hul : u.length ≤ 1048575 := by simp at ht; omega
                have HD : Hid ((⟨(u ++ [d]).toArray⟩ : ByteArray).toList.isEmpty = false) := Lib.hid (by rw [Lib.toList_data]; simp)
                have HX := Lib.hid (trimRL_snoc u d)
                have HE : Hid (trimRL (u ++ [d]) = u ++ [d] → (⟨(trimRL (u ++ [d])).toArray⟩ : ByteArray) = ⟨(u ++ [d]).toArray⟩) := Lib.hid (fun h => by rw [h])
                clear ht h0
                cases hb : blankB d with
                | true =>
                  rw [hb] at HX
                  have HBL := Lib.hid (fun W => rBlank_is d W hb)
                  have HT2 : Hid (asideL s = trimRL u) := Lib.hid (by rw [HT.out, HX.out]; rfl)
                  have hsl := ext_takeL HS.out u.length
                  rw [List.take_left'  rfl] at hsl
                  have HMS : Hid (strLenL (.string ⟨u.toArray⟩) < strLenL (.string ⟨(u ++ [d]).toArray⟩)) := Lib.hid (by show u.length < (u ++ [d]).length; simp)
                  generalize (⟨(u ++ [d]).toArray⟩ : ByteArray) = bz at *
                  have g1 : ∀ h, bz[u.length]'h = d := fun h => last_at HS.out h
                  have e1 : (bz.size : Int) - 1 = (u.length : Int) := by omega
                  have l1 : (u.length : Int) < (bz.size : Int) := by omega
                  have l2 : u.length < bz.size := by omega
                  have l3 : u.length ≤ bz.size := by omega
                  have he := HD.out
                  clear hb HE
                  go_wp2_with fail
                  refine (HBL.out _).mono ?_
                  rintro e w2 ⟨rfl, rfl⟩
                  go_wp2_with fail
                  exact ⟨⟨u, rfl, by omega, HT2⟩, HMS.out⟩
                | false =>
                  rw [hb] at HX
                  have HBL := Lib.hid (fun W => rBlank_is d W hb)
                  have HT2 : Hid ((⟨(asideL s).toArray⟩ : ByteArray) = ⟨(u ++ [d]).toArray⟩) := Lib.hid (by rw [HT.out]; exact HE.out HX.out)
                  generalize (⟨(u ++ [d]).toArray⟩ : ByteArray) = bz at *
                  have g1 : ∀ h, bz[u.length]'h = d := fun h => last_at HS.out h
                  have e1 : (bz.size : Int) - 1 = (u.length : Int) := by omega
                  have l1 : (u.length : Int) < (bz.size : Int) := by omega
                  have l2 : u.length < bz.size := by omega
                  have he := HD.out
                  clear hb HE
                  go_wp2_with fail
                  refine (HBL.out _).mono ?_
                  rintro e w2 ⟨rfl, rfl⟩
                  go_wp2_with fail
                  go_ret
                  exact ⟨by rw [HT2.out]; rfl, rfl⟩
      · have k35 : ((c.toNat : Int) == 35) = false := eqK h35
        have HNS2 := Lib.hid (HNS.out.succ (fun hh => h35 (by have := hh.1; rw [HC.out] at this; injection this)))
        have hcat := Lib.hid (show (⟨(unescL (s.take i)).toArray⟩ : ByteArray) ++ ⟨#[c]⟩ = ⟨(unescL (s.take (i + 1))).toArray⟩ by
          rw [HTK.out, unescL_snoc, if_neg (fun hh => h35 hh.1)]
          exact cat_bytesL _ [c])
        generalize (⟨(unescL (s.take i)).toArray⟩ : ByteArray) = BT at *
        clear h35
        go_wp2_with fail
        exact ⟨⟨i + 1, congrArg Value.string hcat.out, rfl, HI1.out, HNS2⟩, HI2.out⟩
    · obtain rfl : i = b.size := by omega
      have HAS := Lib.hid (aside_of HNS.out (by rw [HSZ.out]; exact Nat.le_refl _) (.inl HSZ.out))
      go_wp2_with fail
      go_loop [3] (fun x => ∃ t : List UInt8, x = .string ⟨t.toArray⟩ ∧ t.length ≤ 1048576 ∧ Hid (asideL s = trimRL t)) (fun x => strLenL x)
      case atStart => exact ⟨unescL (s.take b.size), rfl, HUL.out b.size, HAS⟩
      case round =>
        obtain ⟨t, rfl, ht, HT⟩ := hrel
        by_cases h0 : t = []
        · subst h0
          go_wp2_with fail
          go_ret
          exact ⟨by rw [HT.out]; rfl, rfl⟩
        · obtain ⟨u, d, rfl⟩ := snoc_of h0
          have HS := Lib.hid (strIsL (u ++ [d]))
          have hsz : (⟨(u ++ [d]).toArray⟩ : ByteArray).size = u.length + 1 := by rw [HS.out.size]; simp
          have hul : u.length ≤ 1048575 := by simp at ht; omega
          have HD : Hid ((⟨(u ++ [d]).toArray⟩ : ByteArray).toList.isEmpty = false) := Lib.hid (by rw [Lib.toList_data]; simp)
          have HX := Lib.hid (trimRL_snoc u d)
          have HE : Hid (trimRL (u ++ [d]) = u ++ [d] → (⟨(trimRL (u ++ [d])).toArray⟩ : ByteArray) = ⟨(u ++ [d]).toArray⟩) := Lib.hid (fun h => by rw [h])
          clear ht h0
          cases hb : blankB d with
          | true =>
            rw [hb] at HX
            have HBL := Lib.hid (fun W => rBlank_is d W hb)
            have HT2 : Hid (asideL s = trimRL u) := Lib.hid (by rw [HT.out, HX.out]; rfl)
            have hsl := ext_takeL HS.out u.length
            rw [List.take_left'  rfl] at hsl
            have HMS : Hid (strLenL (.string ⟨u.toArray⟩) < strLenL (.string ⟨(u ++ [d]).toArray⟩)) := Lib.hid (by show u.length < (u ++ [d]).length; simp)
            generalize (⟨(u ++ [d]).toArray⟩ : ByteArray) = bz at *
            have g1 : ∀ h, bz[u.length]'h = d := fun h => last_at HS.out h
            have e1 : (bz.size : Int) - 1 = (u.length : Int) := by omega
            have l1 : (u.length : Int) < (bz.size : Int) := by omega
            have l2 : u.length < bz.size := by omega
            have l3 : u.length ≤ bz.size := by omega
            have he := HD.out
            clear hb HE
            go_wp2_with fail
            refine (HBL.out _).mono ?_
            rintro e w2 ⟨rfl, rfl⟩
            go_wp2_with fail
            exact ⟨⟨u, rfl, by omega, HT2⟩, HMS.out⟩
          | false =>
            rw [hb] at HX
            have HBL := Lib.hid (fun W => rBlank_is d W hb)
            have HT2 : Hid ((⟨(asideL s).toArray⟩ : ByteArray) = ⟨(u ++ [d]).toArray⟩) := Lib.hid (by rw [HT.out]; exact HE.out HX.out)
            generalize (⟨(u ++ [d]).toArray⟩ : ByteArray) = bz at *
            have g1 : ∀ h, bz[u.length]'h = d := fun h => last_at HS.out h
            have e1 : (bz.size : Int) - 1 = (u.length : Int) := by omega
            have l1 : (u.length : Int) < (bz.size : Int) := by omega
            have l2 : u.length < bz.size := by omega
            have he := HD.out
            clear hb HE
            go_wp2_with fail
            refine (HBL.out _).mono ?_
            rintro e w2 ⟨rfl, rfl⟩
            go_wp2_with fail
            go_ret
            exact ⟨by rw [HT2.out]; rfl, rfl⟩
end Go.Proofs.YtoandhhkmkgmaaaGreatDoor
/- Lines joined, in plain Lean: as the program joins them, as the reference does. Contract: line.join. -/
namespace Go.Proofs.YtoandhhkmkgmaaaGreatDoor
open Go.RowKit

/-- The first line of a text, and what stands behind it. -/
def frontN : List UInt8 → List UInt8
  | [] => []
  | c :: t => if c = 10 then [] else c :: frontN t
def backN : List UInt8 → List UInt8
  | [] => []
  | c :: t => if c = 10 then t else backN t
theorem backN_len : ∀ s : List UInt8, s ≠ [] → (backN s).length < s.length
  | [], h => absurd rfl h
  | c :: t, _ => by
    rw [backN]
    split
    · simp
    · by_cases ht : t = []
      · subst ht; simp [backN]
      · have := backN_len t ht; simp; omega
theorem backN_le (s : List UInt8) : (backN s).length ≤ s.length := by
  by_cases h : s = []
  · subst h; exact Nat.le_refl _
  · exact Nat.le_of_lt (backN_len s h)
theorem frontN_le : ∀ s : List UInt8, (frontN s).length ≤ s.length
  | [] => Nat.le_refl _
  | c :: t => by
    rw [frontN]
    have := frontN_le t
    split <;> simp <;> omega
/-- The lines of a text. -/
def linesN : List UInt8 → List (List UInt8)
  | [] => []
  | c :: t => frontN (c :: t) :: linesN (backN (c :: t))
termination_by s => s.length
decreasing_by exact backN_len _ (by simp)
theorem linesN_nil : linesN [] = [] := by rw [linesN]
theorem linesN_cons {s : List UInt8} (h : s ≠ []) : linesN s = frontN s :: linesN (backN s) := by
  cases s with
  | nil => exact absurd rfl h
  | cons c t => rw [linesN]
theorem linesN_emp (s : List UInt8) : (linesN s = []) ↔ s = [] := by
  by_cases h : s = []
  · subst h; simp [linesN_nil]
  · rw [linesN_cons h]; simp [h]
theorem index_nl : ∀ s : List UInt8, Lib.index s [10] = -1 ∧ frontN s = s ∧ backN s = [] ∨ ∃ i : Nat, Lib.index s [10] = (i : Int) ∧ frontN s = s.take i ∧ backN s = s.drop (i + 1)
  | [] => .inl ⟨by simp [Lib.index], rfl, rfl⟩
  | c :: t => by
    by_cases h : c = 10
    · subst h
      right
      refine ⟨0, ?_, by simp [frontN], by simp [backN]⟩
      simp [Lib.index, List.isPrefixOf]
    · have hp : ([10] : List UInt8).isPrefixOf (c :: t) = false := by
        have : ((10 : UInt8) == c) = false := beq_eq_false_iff_ne.2 (fun e => h e.symm)
        simp [List.isPrefixOf, this]
      have hi : Lib.index (c :: t) [10] = if Lib.index t [10] == -1 then -1 else Lib.index t [10] + 1 := by rw [Lib.index, hp]; rfl
      rcases index_nl t with ⟨h1, h2, h3⟩ | ⟨i, h1, h2, h3⟩
      · left
        refine ⟨by rw [hi, h1]; rfl, ?_, ?_⟩
        · rw [frontN, if_neg h, h2]
        · rw [backN, if_neg h, h3]
      · right
        refine ⟨i + 1, ?_, ?_, ?_⟩
        · have : ((i : Int) == -1) = false := by simp
          rw [hi, h1, this]
          simp
        · rw [frontN, if_neg h, h2, List.take_succ_cons]
        · rw [backN, if_neg h, h3, List.drop_succ_cons]
theorem cut_nl (s : List UInt8) : ∃ m, Lib.cut s [10] = (frontN s, backN s, m) := by
  unfold Lib.cut
  rcases index_nl s with ⟨h1, h2, h3⟩ | ⟨i, h1, h2, h3⟩
  · rw [h1, h2, h3]; exact ⟨_, rfl⟩
  · rw [h1, h2, h3, if_pos (by omega)]
    exact ⟨true, rfl⟩
/-- A text with a backslash at its end goes on with the next line. -/
def endsB (s : List UInt8) : Bool := s.getLast? == some 92
def contL (t : List UInt8) : List (List UInt8) → List UInt8 × List (List UInt8)
  | [] => (if endsB t then t.dropLast else t, [])
  | n :: ls => if endsB t then contL (t.dropLast ++ [32] ++ trimLL n) ls else (t, n :: ls)
theorem contL_len : ∀ (ls : List (List UInt8)) (t : List UInt8), (contL t ls).2.length ≤ ls.length
  | [], t => by simp [contL]
  | n :: ls, t => by
    rw [contL]
    split
    · exact Nat.le_trans (contL_len ls (t.dropLast ++ [32] ++ trimLL n)) (Nat.le_succ _)
    · exact Nat.le_refl _
/-- The lines joined; the first one's number is at + 1. -/
def joinL (at_ : Nat) (ls : List (List UInt8)) : List (Nat × List UInt8) := match ls with
  | [] => []
  | l :: ls => (if asideL (contL l ls).1 = [] then [] else [(at_ + 1, asideL (contL l ls).1)]) ++ joinL (at_ + 1 + (ls.length - (contL l ls).2.length)) (contL l ls).2
termination_by ls.length
decreasing_by have := contL_len ls l; simp; omega
theorem joinL_nil (k : Nat) : joinL k [] = [] := by rw [joinL]
theorem joinL_cons (k : Nat) (l : List UInt8) (ls : List (List UInt8)) : joinL k (l :: ls) = (if asideL (contL l ls).1 = [] then [] else [(k + 1, asideL (contL l ls).1)]) ++ joinL (k + 1 + (ls.length - (contL l ls).2.length)) (contL l ls).2 := by rw [joinL]
end Go.Proofs.YtoandhhkmkgmaaaGreatDoor
/- Contract: line.join. -/
namespace Go.Proofs.YtoandhhkmkgmaaaGreatDoor
open Go.RowKit

section
variable {w w' : World} {b : Nat} {t : TypeId} {vs : List Value}
end
/-- Lines as they lie. -/
def lnV (L : List (Nat × List UInt8)) : List Value := L.flatMap fun x => [.int .i64 (x.1 : Int), .string ⟨x.2.toArray⟩]
theorem lnV_snoc (L : List (Nat × List UInt8)) (x : Nat × List UInt8) : lnV (L ++ [x]) = lnV L ++ [.int .i64 (x.1 : Int), .string ⟨x.2.toArray⟩] := by unfold lnV; rw [List.flatMap_append]; rfl
theorem own_belowL {w w' : World} {B : Nat} {e : TypeId} {sz : Nat} {v : Value} {n : Nat} {xs : List Value} (h : w.ownsRow B e sz v n xs) (hb : Below w.heap.size w w') : w'.ownsRow B e sz v n xs :=
  h.kept (w' := w') (row := none) ⟨hb.os, hb.tape, hb.output, hb.size, fun k hk _ => hb.block k hk⟩ (by
    cases hv : v.ownBlock with
    | none => exact .inl rfl
    | some g => exact .inr (by simp))
theorem lnInfo : ∃ i, Tryz.prog.info? 175 = some i ∧ i.zero = some (.agg #[.int .i64 0, .string ⟨#[]⟩]) ∧ i.size = 2 ∧ i.bytes = 24 := by
  have h : (Tryz.prog.info? 175).map (fun i => (i.zero, i.size, i.bytes)) = some (some (.agg #[.int .i64 0, .string ⟨#[]⟩]), 2, 24) := by kernel_rfl
  cases hi : Tryz.prog.info? 175 with
  | none => rw [hi] at h; cases h
  | some i =>
    rw [hi] at h
    simp at h
    exact ⟨i, rfl, h⟩
/-- 'append(out, x)', out the call's own. -/
theorem wpList_pushLn {ops : Array Oper} {rest : List Oper} {o : Oper} {a : Act} {Q : Exit → Act → World → Prop} (wr : World) (s x : Operand) (B : Nat) (A : Option Addr) (n c : Nat) (L : List (Nat × List UInt8)) (p : Nat × List UInt8) (b : ByteArray) (hb0 : b = ⟨p.2.toArray⟩)
    (hown : wr.ownsRow B 175 2 (.slice A n c) n (lnV L)) (hB : B ≤ wr.heap.size) (hn : (n + 1) * 24 ≤ 140737488355328)
    (hgd : o.guard = none) (ho : o.op = .call { callee := .builtin .append, args := #[s, x], argTypes := #[171, 171] })
    (hs : a.eval s = .slice A n c) (hx : a.eval x = .slice (some ⟨wr.heap.size, 0, none⟩) 1 1)
    (h : ∀ g c' w', w'.ownsRow B 175 2 (.slice (some ⟨g, 0, none⟩) (n + 1) c') (n + 1) (lnV (L ++ [p])) → Below B wr w' → wpList Tryz.prog ops Q rest (a.put o.dst (.slice (some ⟨g, 0, none⟩) (n + 1) c')) w') :
    wpList Tryz.prog ops Q (o :: rest) a (wr.alloc (.cells #[.int .i64 (p.1 : Int), .string b] 175)) := by
  subst hb0
  obtain ⟨i, hi, hz, h1, hb⟩ := lnInfo
  have ht : Tryz.prog.underlying 171 = some (.slice 175) := by kernel_rfl
  have hB' : B ≤ (wr.alloc (.cells #[.int .i64 (p.1 : Int), .string ⟨p.2.toArray⟩] 175)).heap.size := by simp; omega
  refine wpList_append_own_at _ hgd s x 171 ho B 175 i _ 2 24 ht hi hz h1 hb rfl (by decide) (.slice A n c) n (lnV L) hs (hown.alloc _) ⟨wr.heap.size, 0, none⟩ 1 1 [.int .i64 (p.1 : Int), .string ⟨p.2.toArray⟩] hx rfl ?_ (by intro u hu; simp at hu; rcases hu with rfl | rfl <;> rfl) (by unfold maxLen; omega) hn hB' ?_
  · intro j u hj
    rw [Addr.add_lit, World.cell?_alloc_at _ _ _ _ rfl, Nat.zero_add]
    simpa using hj
  · intro v' w' hown' hg hnil hor
    have hne : v' ≠ .slice none 0 0 := fun e => by have := (hnil.1 e).2; omega
    rcases hown'.2 with ⟨h', _⟩ | ⟨g, cap, cur, h', _⟩
    · exact absurd h' hne
    · subst h'
      refine h g cap w' (by rw [lnV_snoc]; exact hown') ?_
      exact ((Below.refl B wr).alloc hB _).grown hg hB' (fun k hk => (hown.lt k hk).1)
/-- What is read of the next line. -/
def oneL (T s : List UInt8) : List UInt8 := if T = [] then frontN s else trimLL (frontN s)
theorem endsB_app {T one : List UInt8} (hT : T = [] ∨ ∃ U, T = U ++ [32]) : endsB (T ++ one) = endsB one := by
  unfold endsB
  by_cases h : one = []
  · subst h
    rcases hT with rfl | ⟨U, rfl⟩
    · rfl
    · simp
  · obtain ⟨u, d, rfl⟩ := snoc_of h
    rw [← List.append_assoc]
    simp
theorem dropLast_app {T one : List UInt8} (h : endsB one = true) : (T ++ one).dropLast = T ++ one.dropLast := by
  have : one ≠ [] := fun e => by rw [e] at h; cases h
  exact List.dropLast_append_of_ne_nil this
theorem contL_end {t : List UInt8} {ls : List (List UInt8)} (h : endsB t = false) : contL t ls = (t, ls) := by
  cases ls with
  | nil => rw [contL, h]; rfl
  | cons n ls => rw [contL, h]; rfl
theorem suffix_B (s : List UInt8) : Lib.hasSuffix s [92] = endsB s ∧ Lib.trimSuffix s [92] = if endsB s then s.dropLast else s := by
  have h1 : Lib.hasSuffix s [92] = endsB s := by
    unfold Lib.hasSuffix endsB
    by_cases h : s = []
    · subst h; rfl
    · obtain ⟨u, d, rfl⟩ := snoc_of h
      rw [Bool.eq_iff_iff]
      simp [List.isSuffixOf_iff_suffix, List.suffix_iff_eq_drop]
      exact eq_comm
  refine ⟨h1, ?_⟩
  unfold Lib.trimSuffix
  rw [h1]
  cases h : endsB s with
  | true => rw [if_pos rfl, if_pos rfl, List.dropLast_eq_take]; rfl
  | false => rfl
end Go.Proofs.YtoandhhkmkgmaaaGreatDoor
/- Contract: line.join. -/
namespace Go.Proofs.YtoandhhkmkgmaaaGreatDoor
open Go.RowKit

theorem sCut_any (s : List UInt8) (m : Int) (w : World) (hl : s.length ≤ 1048576) (hm : w.cell? ⟨1, 0, none⟩ = some (.int .i64 m)) :
    Calls Tryz.prog 193 #[.string ⟨s.toArray⟩, .string ⟨#[10]⟩] w fun e w' => ∃ x, e = .returned (.tuple #[.string ⟨(frontN s).toArray⟩, .string ⟨(backN s).toArray⟩, .bool x]) ∧ Below w.heap.size w w' := by
  obtain ⟨x, hx⟩ := cut_nl s
  refine (Tryz.strings_Cut ⟨s.toArray⟩ ⟨#[10]⟩ m w (show s.length < _ by omega) hm).mono ?_
  rintro e w' ⟨rfl, n, rfl⟩
  refine ⟨x, ?_, below_of_drewN _ _⟩
  rw [show (⟨s.toArray⟩ : ByteArray).data.toList = s from rfl, show (⟨#[10]⟩ : ByteArray).data.toList = [10] from rfl, hx]
theorem sCutB_any (s : List UInt8) (w : World) (hl : s.length ≤ 1048576) :
    Calls Tryz.prog 53 #[.string ⟨s.toArray⟩, .string ⟨#[92]⟩] w fun e w' => e = .returned (.tuple #[.string ⟨(if endsB s then s.dropLast else s).toArray⟩, .bool (endsB s)]) ∧ w' = w := by
  obtain ⟨h1, h2⟩ := suffix_B s
  have h := Tryz.strings_CutSuffix ⟨s.toArray⟩ ⟨#[92]⟩ w (show s.length ≤ _ by omega)
  rw [show (⟨s.toArray⟩ : ByteArray).data.toList = s from rfl, show (⟨#[92]⟩ : ByteArray).data.toList = [92] from rfl, h1, h2] at h
  exact h
theorem trimLL_le (s : List UInt8) : (trimLL s).length ≤ s.length := by unfold trimLL; exact (List.dropWhile_sublist _).length_le
theorem front_back (s : List UInt8) : (frontN s).length + (backN s).length ≤ s.length := by
  rcases index_nl s with ⟨_, h2, h3⟩ | ⟨i, h1, h2, h3⟩
  · rw [h2, h3]; simp
  · rw [h2, h3, List.length_take, List.length_drop]; omega
theorem pc_keepL {w w' : World} {b o : Nat} {v : Value} (h : w.cell? ⟨b, o, none⟩ = some v) (hb : Below w.heap.size w w') : w'.cell? ⟨b, o, none⟩ = some v := (hb.cell (p := ⟨b, o, none⟩) (lt_of_cell' h)).trans h
def JnPost (s : List UInt8) (w : World) (e : Ending) (w' : World) : Prop :=
  ∃ A c, e = .returned (.slice A (joinL 0 (linesN s)).length c) ∧ w'.ownsRow w.heap.size 175 2 (.slice A (joinL 0 (linesN s)).length c) (joinL 0 (linesN s)).length (lnV (joinL 0 (linesN s))) ∧ Below w.heap.size w w'
set_option maxRecDepth 100000 in
set_option maxHeartbeats 4000000 in
theorem lnJoin_any (s : List UInt8) (m : Int) (w : World) (hl : s.length ≤ 20000) (hm : w.cell? ⟨1, 0, none⟩ = some (.int .i64 m)) :
    Calls Tryz.prog 168 #[.string ⟨s.toArray⟩] w (JnPost s w) := by
  have HM := Lib.hid hm
  have HML := Lib.hid (lt_of_cell' hm)
  clear hm
  go_enter Tryz.func168, Tryz.ntmps168
  go_wp2_with fail
  go_loopw [0, 3, 4] (fun x y z wr => ∃ (s1 : List UInt8) (L : List (Nat × List UInt8)) (A : Option Addr) (n c at_ : Nat), x = .string ⟨s1.toArray⟩ ∧ y = .slice A n c ∧ z = .int .i64 (at_ : Int) ∧ s1.length + at_ ≤ 20000 ∧ n ≤ at_ ∧ Hid (L.length = n) ∧ Hid (joinL 0 (linesN s) = L ++ joinL at_ (linesN s1)) ∧ Hid (wr.ownsRow w.heap.size 175 2 (.slice A n c) n (lnV L)) ∧ Hid (Below w.heap.size w wr)) (fun x _ _ _ => strLenL x)
  case atStart => exact ⟨s, [], none, 0, 0, 0, rfl, rfl, rfl, by omega, by omega, Lib.hid rfl, Lib.hid rfl, Lib.hid (World.ownsRow_nil _ _ _ _), Lib.hid (Below.refl _ _)⟩
  case round =>
    obtain ⟨s1, L, A, n, c, at_, rfl, rfl, rfl, hsa, hna, HL, HJ, HO, HB⟩ := hrel
    by_cases h0 : s1 = []
    · subst h0
      have HE : Hid (joinL 0 (linesN s) = L) := Lib.hid (by rw [HJ.out, linesN_nil, joinL_nil, List.append_nil])
      go_wp2_with fail
      go_ret
      refine ⟨A, c, by rw [HE.out, HL.out]; rfl, ?_, HB.out⟩
      rw [HE.out, HL.out]
      exact HO.out
    · have hs1p : 0 < s1.length := List.length_pos_iff.2 h0
      have HNE : Hid (s1 ≠ []) := Lib.hid h0
      have hemp : s1.isEmpty = false := by cases s1 with
        | nil => exact absurd rfl h0
        | cons a l => rfl
      have HBK0 := Lib.hid (show Blk (wr.alloc (.cells #[.int .i64 ((at_ : Int) + 1), .string ⟨#[]⟩] 175)) wr.heap.size 175 [.int .i64 ((at_ : Int) + 1), .string ⟨#[]⟩] from Blk.new wr _ _)
      have HB0 := Lib.hid (below_newL (Below.refl wr.heap.size wr) (Below.alloc (Below.refl _ _) (Nat.le_refl _) (.cells #[.int .i64 ((at_ : Int) + 1), .string ⟨#[]⟩] 175)))
      clear h0
      go_upto_region 6 with fail
      generalize wr.alloc (.cells #[.int .i64 ((at_ : Int) + 1), .string ⟨#[]⟩] 175) = w1 at *
      obtain ⟨wo, hwo⟩ : ∃ wo : World, wo = wr := ⟨_, rfl⟩
      subst hwo
      go_wp2_with fail
      go_loopw [0, 4, 6] (fun x y z wi => ∃ (T s2 : List UInt8) (k : Nat) (mo : Bool), x = .string ⟨s2.toArray⟩ ∧ y = .int .i64 (k : Int) ∧ z = .bool mo ∧ T.length + s2.length ≤ 20000 ∧ k + s2.length ≤ 20001 ∧ s2.length ≤ s1.length ∧ Hid (Blk wi wo.heap.size 175 [.int .i64 ((at_ : Int) + 1), .string ⟨T.toArray⟩]) ∧ Hid (Below wo.heap.size wo wi) ∧ Hid (if mo = true then (s2 ≠ [] ∧ (T = [] ∨ ∃ U, T = U ++ [32]) ∧ contL (frontN s1) (linesN (backN s1)) = contL (T ++ oneL T s2) (linesN (backN s2)) ∧ (k = at_ + 1 + ((linesN (backN s1)).length - (linesN (backN s2)).length) ∧ (linesN (backN s2)).length ≤ (linesN (backN s1)).length)) else (contL (frontN s1) (linesN (backN s1)) = (T, linesN s2) ∧ k = at_ + 1 + ((linesN (backN s1)).length - (linesN s2).length) ∧ k + s2.length ≤ 20000 ∧ s2.length < s1.length))) (fun x _ _ _ => strLenL x)
      case atStart => exact ⟨[], s1, at_ + 1, true, rfl, rfl, rfl, by simp; omega, by omega, Nat.le_refl _, HBK0, HB0, Lib.hid (by rw [if_pos rfl]; exact ⟨HNE.out, .inl rfl, rfl, by omega, Nat.le_refl _⟩)⟩
      case round =>
        obtain ⟨T, s2, k, mo, rfl, rfl, rfl, hts, hks, hss, HBK, HBW, HQ⟩ := hrel
        cases mo with
        | true =>
          have hq := HQ.out
          rw [if_pos rfl] at hq
          obtain ⟨hne2, hTT, hCT, hKL⟩ := hq
          have HTT := Lib.hid hTT
          have HCT := Lib.hid hCT
          have HKL := Lib.hid hKL
          have HBL := Lib.hid (backN_len s2 hne2)
          have hfb := front_back s2
          have hbl := backN_len s2 hne2
          have HSC := Lib.hid (sCut_any s2 m wr (by omega) (pc_keepL (pc_keepL HM.out HB.out) HBW.out))
          have HTL := Lib.hid (fun W => sTrimL_any (frontN s2) W)
          have HMS : Hid (strLenL (.string ⟨(backN s2).toArray⟩) < strLenL (.string ⟨s2.toArray⟩)) := Lib.hid hbl
          clear HQ hne2 hTT hCT hKL
          go_wp2_with fail
          refine HSC.out.mono ?_
          rintro e w5 ⟨xb, rfl, hb5⟩
          have HBK5 := Lib.hid (HBK.out.below hb5 HBK.out.lt)
          have HBW5 := Lib.hid (below_newL HBW.out hb5)
          have hd0 := HBK5.out.cell (j := 0) rfl
          have hd1 := HBK5.out.cell (j := 1) rfl
          clear hb5
          by_cases hT : T = []
          · have HONE : oneL T s2 = frontN s2 := if_pos hT
            rw [HONE] at HCT
            have hte : T.isEmpty = true := by rw [hT]; rfl
            clear hT
            go_upto_region 12 with fail
            clear hd0 hd1
            have HBK6 := HBK5
            have HBW6 := HBW5
            have hol : (frontN s2).length ≤ (frontN s2).length := Nat.le_refl _
            have HSB := Lib.hid (sCutB_any (frontN s2) w5 (by have := frontN_le s2; omega))
            have HBT : Hid ((T = [] ∨ ∃ U, T = U ++ [32])) := HTT
            have hc0 := HBK6.out.cell (j := 0) rfl
            have hc1 := HBK6.out.cell (j := 1) rfl
            have hf1 := HBK6.out.free 1
            have htl : (⟨T.toArray⟩ : ByteArray).size = T.length := rfl
            cases he : endsB (frontN s2) with
            | false =>
              rw [he] at HSB
              simp only [Bool.false_eq_true, if_false] at HSB
              have HCA := Lib.hid (cat_bytesL T (frontN s2))
              have hosz : (⟨(frontN s2).toArray⟩ : ByteArray).size = (frontN s2).length := rfl
              have HC2 : Hid (contL (frontN s1) (linesN (backN s1)) = (T ++ (frontN s2), linesN (backN s2))) := Lib.hid (by rw [HCT.out, contL_end (by rw [endsB_app HBT.out]; exact he)])
              have HKL2 := HKL
              clear he
              generalize hbo : (⟨(frontN s2).toArray⟩ : ByteArray) = bo at *
              generalize hbT : (⟨T.toArray⟩ : ByteArray) = bT at *
              have hsum : bT.size + bo.size ≤ 40000 := by omega
              go_wp2_with fail
              refine HSB.out.mono ?_
              rintro e w7 ⟨rfl, rfl⟩
              have HK8 := Lib.hid (HBK6.out.same 1 (.string (bT ++ bo)))
              have HB8 := Lib.hid (HBW6.out.setCell (p := ⟨wo.heap.size, 1, none⟩) (Nat.le_refl _) (.string (bT ++ bo)))
              clear hbo hbT
              go_upto_region 14 with fail
              generalize hw8 : w7.setCell ⟨wo.heap.size, 1, none⟩ (.string (bT ++ bo)) = w8 at *
              clear hw8 hc0 hc1 hf1
              rw [HCA.out] at HK8
              go_wp2_with fail
              exact ⟨⟨T ++ (frontN s2), backN s2, k, false, rfl, rfl, rfl, by rw [List.length_append]; omega, by omega, by omega, HK8, HB8, Lib.hid ⟨HC2.out, HKL2.out.1, by omega, by omega⟩⟩, HMS.out⟩
            | true =>
              rw [he] at HSB
              simp only [if_true] at HSB
              have HCA := Lib.hid (cat_bytesL T (frontN s2).dropLast)
              have hdl : (frontN s2).dropLast.length ≤ (frontN s2).length := by rw [List.length_dropLast]; omega
              have hone : (frontN s2) ≠ [] := fun e => by rw [e] at he; cases he
              have hdl2 : (frontN s2).dropLast.length + 1 ≤ (frontN s2).length := by have := List.length_pos_iff.2 hone; rw [List.length_dropLast]; omega
              have hosz : (⟨(frontN s2).dropLast.toArray⟩ : ByteArray).size = (frontN s2).dropLast.length := rfl
              have HEB : Hid (endsB (T ++ (frontN s2)) = true) := Lib.hid (by rw [endsB_app HBT.out]; exact he)
              have HDL : Hid ((T ++ (frontN s2)).dropLast = T ++ (frontN s2).dropLast) := Lib.hid (dropLast_app he)
              clear he hone
              generalize hbo : (⟨(frontN s2).dropLast.toArray⟩ : ByteArray) = bo at *
              generalize hbT : (⟨T.toArray⟩ : ByteArray) = bT at *
              have hsum : bT.size + bo.size ≤ 40000 := by omega
              go_wp2_with fail
              refine HSB.out.mono ?_
              rintro e w7 ⟨rfl, rfl⟩
              have HK8 := Lib.hid (HBK6.out.same 1 (.string (bT ++ bo)))
              have HB8 := Lib.hid (HBW6.out.setCell (p := ⟨wo.heap.size, 1, none⟩) (Nat.le_refl _) (.string (bT ++ bo)))
              clear hbo hbT
              go_upto_region 14 with fail
              generalize hw8 : w7.setCell ⟨wo.heap.size, 1, none⟩ (.string (bT ++ bo)) = w8 at *
              clear hw8 hc0 hc1 hf1
              rw [HCA.out] at HK8
              by_cases hbe : backN s2 = []
              · have hbe2 : (backN s2).isEmpty = true := by rw [hbe]; rfl
                have HC2 : Hid (contL (frontN s1) (linesN (backN s1)) = (T ++ (frontN s2).dropLast, linesN (backN s2))) := Lib.hid (by rw [HCT.out, hbe, linesN_nil, contL, HEB.out, if_pos rfl, HDL.out])
                clear hbe
                go_wp2_with fail
                exact ⟨⟨T ++ (frontN s2).dropLast, backN s2, k, false, rfl, rfl, rfl, by rw [List.length_append]; omega, by omega, by omega, HK8, HB8, Lib.hid ⟨HC2.out, HKL.out.1, by omega, by omega⟩⟩, HMS.out⟩
              · have hbe2 : (backN s2).isEmpty = false := by cases hq : backN s2 with
                  | nil => exact absurd hq hbe
                  | cons a l => rfl
                have HLC : Hid (linesN (backN s2) = frontN (backN s2) :: linesN (backN (backN s2))) := Lib.hid (linesN_cons hbe)
                have HNE3 : Hid (backN s2 ≠ []) := Lib.hid hbe
                have HC2 : Hid (contL (frontN s1) (linesN (backN s1)) = contL ((T ++ (frontN s2).dropLast ++ [32]) ++ oneL (T ++ (frontN s2).dropLast ++ [32]) (backN s2)) (linesN (backN (backN s2)))) := Lib.hid (by
                  rw [HCT.out, HLC.out, contL, HEB.out, if_pos rfl, HDL.out]
                  unfold oneL
                  rw [if_neg (by simp)])
                have HK2 : Hid (k + 1 = at_ + 1 + ((linesN (backN s1)).length - (linesN (backN (backN s2))).length) ∧ (linesN (backN (backN s2))).length ≤ (linesN (backN s1)).length) := Lib.hid (by
                  have h1 := HKL.out
                  rw [HLC.out, List.length_cons] at h1
                  omega)
                have hc0 := HK8.out.cell (j := 0) rfl
                have hc1 := HK8.out.cell (j := 1) rfl
                have hf1 := HK8.out.free 1
                have HCA2 := Lib.hid (cat_bytesL (T ++ (frontN s2).dropLast) [32])
                have hts : (⟨(T ++ (frontN s2).dropLast).toArray⟩ : ByteArray).size ≤ 40000 := by show (T ++ (frontN s2).dropLast).length ≤ _; rw [List.length_append]; omega
                clear hbe
                generalize hb9 : (⟨(T ++ (frontN s2).dropLast).toArray⟩ : ByteArray) = b9 at *
                have HK9 := Lib.hid (HK8.out.same 1 (.string (b9 ++ ⟨#[32]⟩)))
                have HCA3 : Hid (b9 ++ ⟨#[32]⟩ = (⟨(T ++ (frontN s2).dropLast ++ [32]).toArray⟩ : ByteArray)) := Lib.hid HCA2.out
                have HB9 := Lib.hid (HB8.out.setCell (p := ⟨wo.heap.size, 1, none⟩) (Nat.le_refl _) (.string (b9 ++ ⟨#[32]⟩)))
                have HK10 : Hid (Blk (w8.setCell ⟨wo.heap.size, 1, none⟩ (.string (b9 ++ ⟨#[32]⟩))) wo.heap.size 175 [.int .i64 ((at_ : Int) + 1), .string ⟨(T ++ (frontN s2).dropLast ++ [32]).toArray⟩]) := Lib.hid (by
                  have h := HK9.out
                  generalize w8.setCell ⟨wo.heap.size, 1, none⟩ (.string (b9 ++ ⟨#[32]⟩)) = wz at h ⊢
                  rw [HCA3.out] at h
                  exact h)
                have hfl : (frontN s2).length + (backN s2).length ≤ s2.length := front_back s2
                have hbl2 : (backN s2).length < s2.length := HBL.out
                clear hb9
                go_wp2_with fail
                exact ⟨⟨T ++ (frontN s2).dropLast ++ [32], backN s2, k + 1, true, rfl, rfl, rfl, by rw [List.length_append, List.length_append]; simp only [List.length_cons, List.length_nil]; omega, by omega, by omega, HK10, HB9, Lib.hid ⟨HNE3.out, .inr ⟨_, rfl⟩, HC2.out, HK2.out⟩⟩, HMS.out⟩
          · have HONE : oneL T s2 = trimLL (frontN s2) := if_neg hT
            rw [HONE] at HCT
            have hte : T.isEmpty = false := by cases hq : T with
              | nil => exact absurd hq hT
              | cons a l => rfl
            clear hT
            go_wp2_with fail
            refine (HTL.out _).mono ?_
            rintro e w6 ⟨rfl, hb6⟩
            have HBK6 := Lib.hid (HBK5.out.below hb6 HBK5.out.lt)
            have HBW6 := Lib.hid (below_newL HBW5.out hb6)
            clear hb6 hd0 hd1
            go_upto_region 12 with fail
            have hol : (trimLL (frontN s2)).length ≤ (frontN s2).length := trimLL_le _
            have HSB := Lib.hid (sCutB_any (trimLL (frontN s2)) w6 (by have := frontN_le s2; omega))
            have HBT : Hid ((T = [] ∨ ∃ U, T = U ++ [32])) := HTT
            have hc0 := HBK6.out.cell (j := 0) rfl
            have hc1 := HBK6.out.cell (j := 1) rfl
            have hf1 := HBK6.out.free 1
            have htl : (⟨T.toArray⟩ : ByteArray).size = T.length := rfl
            cases he : endsB (trimLL (frontN s2)) with
            | false =>
              rw [he] at HSB
              simp only [Bool.false_eq_true, if_false] at HSB
              have HCA := Lib.hid (cat_bytesL T (trimLL (frontN s2)))
              have hosz : (⟨(trimLL (frontN s2)).toArray⟩ : ByteArray).size = (trimLL (frontN s2)).length := rfl
              have HC2 : Hid (contL (frontN s1) (linesN (backN s1)) = (T ++ (trimLL (frontN s2)), linesN (backN s2))) := Lib.hid (by rw [HCT.out, contL_end (by rw [endsB_app HBT.out]; exact he)])
              have HKL2 := HKL
              clear he
              generalize hbo : (⟨(trimLL (frontN s2)).toArray⟩ : ByteArray) = bo at *
              generalize hbT : (⟨T.toArray⟩ : ByteArray) = bT at *
              have hsum : bT.size + bo.size ≤ 40000 := by omega
              go_wp2_with fail
              refine HSB.out.mono ?_
              rintro e w7 ⟨rfl, rfl⟩
              have HK8 := Lib.hid (HBK6.out.same 1 (.string (bT ++ bo)))
              have HB8 := Lib.hid (HBW6.out.setCell (p := ⟨wo.heap.size, 1, none⟩) (Nat.le_refl _) (.string (bT ++ bo)))
              clear hbo hbT
              go_upto_region 14 with fail
              generalize hw8 : w7.setCell ⟨wo.heap.size, 1, none⟩ (.string (bT ++ bo)) = w8 at *
              clear hw8 hc0 hc1 hf1
              rw [HCA.out] at HK8
              go_wp2_with fail
              exact ⟨⟨T ++ (trimLL (frontN s2)), backN s2, k, false, rfl, rfl, rfl, by rw [List.length_append]; omega, by omega, by omega, HK8, HB8, Lib.hid ⟨HC2.out, HKL2.out.1, by omega, by omega⟩⟩, HMS.out⟩
            | true =>
              rw [he] at HSB
              simp only [if_true] at HSB
              have HCA := Lib.hid (cat_bytesL T (trimLL (frontN s2)).dropLast)
              have hdl : (trimLL (frontN s2)).dropLast.length ≤ (trimLL (frontN s2)).length := by rw [List.length_dropLast]; omega
              have hone : (trimLL (frontN s2)) ≠ [] := fun e => by rw [e] at he; cases he
              have hdl2 : (trimLL (frontN s2)).dropLast.length + 1 ≤ (trimLL (frontN s2)).length := by have := List.length_pos_iff.2 hone; rw [List.length_dropLast]; omega
              have hosz : (⟨(trimLL (frontN s2)).dropLast.toArray⟩ : ByteArray).size = (trimLL (frontN s2)).dropLast.length := rfl
              have HEB : Hid (endsB (T ++ (trimLL (frontN s2))) = true) := Lib.hid (by rw [endsB_app HBT.out]; exact he)
              have HDL : Hid ((T ++ (trimLL (frontN s2))).dropLast = T ++ (trimLL (frontN s2)).dropLast) := Lib.hid (dropLast_app he)
              clear he hone
              generalize hbo : (⟨(trimLL (frontN s2)).dropLast.toArray⟩ : ByteArray) = bo at *
              generalize hbT : (⟨T.toArray⟩ : ByteArray) = bT at *
              have hsum : bT.size + bo.size ≤ 40000 := by omega
              go_wp2_with fail
              refine HSB.out.mono ?_
              rintro e w7 ⟨rfl, rfl⟩
              have HK8 := Lib.hid (HBK6.out.same 1 (.string (bT ++ bo)))
              have HB8 := Lib.hid (HBW6.out.setCell (p := ⟨wo.heap.size, 1, none⟩) (Nat.le_refl _) (.string (bT ++ bo)))
              clear hbo hbT
              go_upto_region 14 with fail
              generalize hw8 : w7.setCell ⟨wo.heap.size, 1, none⟩ (.string (bT ++ bo)) = w8 at *
              clear hw8 hc0 hc1 hf1
              rw [HCA.out] at HK8
              by_cases hbe : backN s2 = []
              · have hbe2 : (backN s2).isEmpty = true := by rw [hbe]; rfl
                have HC2 : Hid (contL (frontN s1) (linesN (backN s1)) = (T ++ (trimLL (frontN s2)).dropLast, linesN (backN s2))) := Lib.hid (by rw [HCT.out, hbe, linesN_nil, contL, HEB.out, if_pos rfl, HDL.out])
                clear hbe
                go_wp2_with fail
                exact ⟨⟨T ++ (trimLL (frontN s2)).dropLast, backN s2, k, false, rfl, rfl, rfl, by rw [List.length_append]; omega, by omega, by omega, HK8, HB8, Lib.hid ⟨HC2.out, HKL.out.1, by omega, by omega⟩⟩, HMS.out⟩
              · have hbe2 : (backN s2).isEmpty = false := by cases hq : backN s2 with
                  | nil => exact absurd hq hbe
                  | cons a l => rfl
                have HLC : Hid (linesN (backN s2) = frontN (backN s2) :: linesN (backN (backN s2))) := Lib.hid (linesN_cons hbe)
                have HNE3 : Hid (backN s2 ≠ []) := Lib.hid hbe
                have HC2 : Hid (contL (frontN s1) (linesN (backN s1)) = contL ((T ++ (trimLL (frontN s2)).dropLast ++ [32]) ++ oneL (T ++ (trimLL (frontN s2)).dropLast ++ [32]) (backN s2)) (linesN (backN (backN s2)))) := Lib.hid (by
                  rw [HCT.out, HLC.out, contL, HEB.out, if_pos rfl, HDL.out]
                  unfold oneL
                  rw [if_neg (by simp)])
                have HK2 : Hid (k + 1 = at_ + 1 + ((linesN (backN s1)).length - (linesN (backN (backN s2))).length) ∧ (linesN (backN (backN s2))).length ≤ (linesN (backN s1)).length) := Lib.hid (by
                  have h1 := HKL.out
                  rw [HLC.out, List.length_cons] at h1
                  omega)
                have hc0 := HK8.out.cell (j := 0) rfl
                have hc1 := HK8.out.cell (j := 1) rfl
                have hf1 := HK8.out.free 1
                have HCA2 := Lib.hid (cat_bytesL (T ++ (trimLL (frontN s2)).dropLast) [32])
                have hts : (⟨(T ++ (trimLL (frontN s2)).dropLast).toArray⟩ : ByteArray).size ≤ 40000 := by show (T ++ (trimLL (frontN s2)).dropLast).length ≤ _; rw [List.length_append]; omega
                clear hbe
                generalize hb9 : (⟨(T ++ (trimLL (frontN s2)).dropLast).toArray⟩ : ByteArray) = b9 at *
                have HK9 := Lib.hid (HK8.out.same 1 (.string (b9 ++ ⟨#[32]⟩)))
                have HCA3 : Hid (b9 ++ ⟨#[32]⟩ = (⟨(T ++ (trimLL (frontN s2)).dropLast ++ [32]).toArray⟩ : ByteArray)) := Lib.hid HCA2.out
                have HB9 := Lib.hid (HB8.out.setCell (p := ⟨wo.heap.size, 1, none⟩) (Nat.le_refl _) (.string (b9 ++ ⟨#[32]⟩)))
                have HK10 : Hid (Blk (w8.setCell ⟨wo.heap.size, 1, none⟩ (.string (b9 ++ ⟨#[32]⟩))) wo.heap.size 175 [.int .i64 ((at_ : Int) + 1), .string ⟨(T ++ (trimLL (frontN s2)).dropLast ++ [32]).toArray⟩]) := Lib.hid (by
                  have h := HK9.out
                  generalize w8.setCell ⟨wo.heap.size, 1, none⟩ (.string (b9 ++ ⟨#[32]⟩)) = wz at h ⊢
                  rw [HCA3.out] at h
                  exact h)
                have hfl : (frontN s2).length + (backN s2).length ≤ s2.length := front_back s2
                have hbl2 : (backN s2).length < s2.length := HBL.out
                clear hb9
                go_wp2_with fail
                exact ⟨⟨T ++ (trimLL (frontN s2)).dropLast ++ [32], backN s2, k + 1, true, rfl, rfl, rfl, by rw [List.length_append, List.length_append]; simp only [List.length_cons, List.length_nil]; omega, by omega, by omega, HK10, HB9, Lib.hid ⟨HNE3.out, .inr ⟨_, rfl⟩, HC2.out, HK2.out⟩⟩, HMS.out⟩
        | false =>
          have hq := HQ.out
          rw [if_neg (by decide)] at hq
          obtain ⟨hC, hK, hk2, hs2⟩ := hq
          have HMS : Hid (strLenL (.string ⟨s2.toArray⟩) < strLenL (.string ⟨s1.toArray⟩)) := Lib.hid hs2
          have HJ2 : Hid (joinL 0 (linesN s) = L ++ ((if asideL T = [] then [] else [(at_ + 1, asideL T)]) ++ joinL k (linesN s2))) := Lib.hid (by
            rw [HJ.out, linesN_cons HNE.out, joinL_cons, hC, ← hK])
          have hak : at_ + 1 ≤ k := by omega
          have HSC := Lib.hid (lnCut_any T m wr (by omega) (pc_keepL (pc_keepL HM.out HB.out) HBW.out))
          have hc0 := HBK.out.cell (j := 0) rfl
          have hc1 := HBK.out.cell (j := 1) rfl
          clear HQ hC hK
          go_wp2_with fail
          refine HSC.out.mono ?_
          rintro e w9 ⟨rfl, hb9⟩
          have HBK9 := Lib.hid (HBK.out.below hb9 HBK.out.lt)
          have HBW9 := Lib.hid (below_newL HBW.out hb9)
          clear hb9 hc0 hc1
          have hc0 := HBK9.out.cell (j := 0) rfl
          have hc1 := HBK9.out.cell (j := 1) rfl
          have hf1 := HBK9.out.free 1
          have HK10 := Lib.hid (HBK9.out.same 1 (.string ⟨(asideL T).toArray⟩))
          have HB10 := Lib.hid (HBW9.out.setCell (p := ⟨wo.heap.size, 1, none⟩) (Nat.le_refl _) (.string ⟨(asideL T).toArray⟩))
          go_upto_region 19 with fail
          generalize w9.setCell ⟨wo.heap.size, 1, none⟩ (.string ⟨(asideL T).toArray⟩) = w10 at *
          clear hc0 hc1 hf1
          have HO10 := Lib.hid (own_belowL HO.out HB10.out)
          have HBB := Lib.hid (below_newL HB.out HB10.out)
          have hzz := HBB.out.size
          have hc0 := HK10.out.cell (j := 0) rfl
          have hc1 := HK10.out.cell (j := 1) rfl
          by_cases ha : asideL T = []
          · have hae : (asideL T).isEmpty = true := by rw [ha]; rfl
            have HJ3 : Hid (joinL 0 (linesN s) = L ++ joinL k (linesN s2)) := Lib.hid (by rw [HJ2.out, if_pos ha]; rfl)
            clear ha
            go_wp2_with fail
            exact ⟨⟨s2, L, A, n, c, k, rfl, rfl, rfl, by omega, by omega, HL, HJ3, HO10, HBB⟩, HMS.out⟩
          · have hae : (asideL T).isEmpty = false := by cases hq : asideL T with
              | nil => exact absurd hq ha
              | cons a l => rfl
            have HJ3 : Hid (joinL 0 (linesN s) = (L ++ [(at_ + 1, asideL T)]) ++ joinL k (linesN s2)) := Lib.hid (by rw [HJ2.out, if_neg ha, List.append_assoc])
            have hn24 : (n + 1) * 24 ≤ 140737488355328 := by omega
            clear ha
            go_wp2_with (at_builtin; refine wpList_pushLn w10 _ _ w.heap.size A n c L (at_ + 1, asideL T) _ rfl HO10.out hzz hn24 rfl rfl rfl rfl ?_; intro g5 c5 w5 hown5 hb5)
            exact ⟨⟨s2, L ++ [(at_ + 1, asideL T)], some ⟨g5, 0, none⟩, n + 1, c5, k, rfl, rfl, rfl, by omega, by omega, Lib.hid (by simp [HL.out]), HJ3, Lib.hid hown5, Lib.hid (HBB.out.trans hb5)⟩, HMS.out⟩
end Go.Proofs.YtoandhhkmkgmaaaGreatDoor
/- Contracts: line.Join, line.plain. -/
namespace Go.Proofs.YtoandhhkmkgmaaaGreatDoor
open Go.RowKit

/-- The fault of a text of lines. -/
def lnE (s : List UInt8) : Nat := if 20000 < s.length then 2 else if s.any badB then 3 else 0
def JoPost (s : List UInt8) (w : World) (e : Ending) (w' : World) : Prop :=
  Below w.heap.size w w' ∧ ((lnE s ≠ 0 ∧ e = .returned (.tuple #[.slice none 0 0, .int .i64 (lnE s : Int)])) ∨
    ∃ A n c, lnE s = 0 ∧ (joinL 0 (linesN s)).length = n ∧ w'.ownsRow w.heap.size 175 2 (.slice A n c) n (lnV (joinL 0 (linesN s))) ∧ e = .returned (.tuple #[.slice A n c, .int .i64 0]))
set_option maxRecDepth 100000 in
set_option maxHeartbeats 1000000 in
theorem lnJoinC_any (s : List UInt8) (m : Int) (w : World) (hl : s.length ≤ 9223372036854775807) (hm : w.cell? ⟨1, 0, none⟩ = some (.int .i64 m)) :
    Calls Tryz.prog 116 #[.string ⟨s.toArray⟩] w (JoPost s w) := by
  have hsz : (⟨s.toArray⟩ : ByteArray).size = s.length := rfl
  by_cases hb : 20000 < s.length
  · have HE : Hid (lnE s = 2) := Lib.hid (by unfold lnE; rw [if_pos hb])
    generalize (⟨s.toArray⟩ : ByteArray) = b at *
    have h2 : 20000 < b.size := by omega
    clear hsz hb hl hm
    go_enter Tryz.func116, Tryz.ntmps116
    go_wp2_with fail
    go_ret2
    exact ⟨Below.refl _ _, .inl ⟨by rw [HE.out]; decide, by rw [HE.out]; rfl⟩⟩
  · have HBD := Lib.hid (lnBad_any s hl w)
    have HJN := Lib.hid (lnJoin_any s m w (by omega) hm)
    have HNB := Lib.hid hb
    generalize (⟨s.toArray⟩ : ByteArray) = b at *
    have h2 : b.size ≤ 20000 := by omega
    clear hsz hb hl hm
    cases hq : s.any badB with
    | true =>
      have HE : Hid (lnE s = 3) := Lib.hid (by unfold lnE; rw [if_neg HNB.out, hq]; rfl)
      rw [hq] at HBD
      clear hq
      go_enter Tryz.func116, Tryz.ntmps116
      go_wp2_with fail
      refine HBD.out.mono ?_
      rintro e w' ⟨rfl, rfl⟩
      go_wp2_with fail
      go_ret2
      exact ⟨Below.refl _ _, .inl ⟨by rw [HE.out]; decide, by rw [HE.out]; rfl⟩⟩
    | false =>
      have HE : Hid (lnE s = 0) := Lib.hid (by unfold lnE; rw [if_neg HNB.out, hq]; rfl)
      rw [hq] at HBD
      clear hq
      go_enter Tryz.func116, Tryz.ntmps116
      go_wp2_with fail
      refine HBD.out.mono ?_
      rintro e w' ⟨rfl, rfl⟩
      go_wp2_with fail
      refine HJN.out.mono ?_
      rintro e w2 ⟨A, c, rfl, hown, hb2⟩
      have HO := Lib.hid hown
      have HB := Lib.hid hb2
      clear hown hb2
      go_wp2_with fail
      go_ret2
      exact ⟨HB.out, .inr ⟨A, _, c, HE.out, rfl, HO.out, rfl⟩⟩
def plainL (s : List UInt8) : Bool := if lnE (shownL s) = 0 then (match joinL 0 (linesN (shownL s)) with | [x] => decide (x.2 = s) | _ => false) else false
theorem lnV_at0 {w : World} {B : Nat} {A : Option Addr} {c : Nat} {x : Nat × List UInt8} (h : w.ownsRow B 175 2 (.slice A 1 c) 1 (lnV [x])) : ∃ g, A = some ⟨g, 0, none⟩ ∧ w.cell? ⟨g, 0, none⟩ = some (.int .i64 (x.1 : Int)) ∧ w.cell? ⟨g, 1, none⟩ = some (.string ⟨x.2.toArray⟩) := by
  rcases h.2 with ⟨_, h0⟩ | ⟨g, cap, cur, hv, _, hh, _, _, _, _⟩
  · omega
  · injection hv with hA _ _
    subst hA
    have h0 := h.cells (g := g) rfl 0 (.int .i64 (x.1 : Int)) rfl
    have h1 := h.cells (g := g) rfl 1 (.string ⟨x.2.toArray⟩) rfl
    unfold Addr.add at h0 h1
    exact ⟨g, rfl, by simpa using h0, by simpa using h1⟩
theorem eq_svL (x y : List UInt8) : ((⟨x.toArray⟩ : ByteArray).toList == (⟨y.toArray⟩ : ByteArray).toList) = decide (x = y) := by
  rw [Lib.toList_data, Lib.toList_data, Bool.eq_iff_iff]; simp
end Go.Proofs.YtoandhhkmkgmaaaGreatDoor
/- Contracts: the reference's SameLines at the same lines; lines as they come in; the text of lines, in plain Lean. -/
namespace Go.Proofs.YtoandhhkmkgmaaaGreatDoor
open Go.RowKit

/-- Lines as they come in. -/
def lnZ (L : List (Int × List UInt8)) : List Value := L.flatMap fun x => [.int .i64 x.1, .string ⟨x.2.toArray⟩]
end Go.Proofs.YtoandhhkmkgmaaaGreatDoor
/- Contract: line.Split. -/
namespace Go.Proofs.YtoandhhkmkgmaaaGreatDoor
open Go.RowKit

theorem ixb_cases : ∀ (l : List UInt8) (c : UInt8), (Lib.indexByte l c = -1 ∧ c ∉ l) ∨ ∃ k : Nat, Lib.indexByte l c = (k : Int) ∧ l[k]? = some c ∧ c ∉ l.take k
  | [], c => .inl ⟨rfl, by simp⟩
  | b :: l, c => by
    by_cases h : b = c
    · subst h
      exact .inr ⟨0, by simp [Lib.indexByte], rfl, by simp⟩
    · have hb : (b == c) = false := beq_eq_false_iff_ne.2 h
      rcases ixb_cases l c with ⟨h1, h2⟩ | ⟨k, h1, h2, h3⟩
      · refine .inl ⟨by simp [Lib.indexByte, hb, h1], ?_⟩
        rw [List.mem_cons]
        rintro (e | e)
        · exact h e.symm
        · exact h2 e
      · refine .inr ⟨k + 1, ?_, by simpa using h2, ?_⟩
        · have : ((k : Int) == -1) = false := by simp
          simp [Lib.indexByte, hb, h1, this]
          try omega
        · rw [List.take_succ_cons, List.mem_cons]
          rintro (e | e)
          · exact h e.symm
          · exact h3 e
def SplPost (s : List UInt8) (c : UInt8) (w : World) (e : Ending) (w' : World) : Prop :=
  Below w.heap.size w w' ∧ ((c ∉ s ∧ e = .returned (.tuple #[.string ⟨s.toArray⟩, .string ⟨#[]⟩, .bool false])) ∨
    ∃ k : Nat, s[k]? = some c ∧ c ∉ s.take k ∧ e = .returned (.tuple #[.string ⟨(trimBL (s.take k)).toArray⟩, .string ⟨(trimBL (s.drop (k + 1))).toArray⟩, .bool true]))
set_option maxRecDepth 100000 in
set_option maxHeartbeats 400000 in
theorem lnSplit_any (s : List UInt8) (c : UInt8) (hl : s.length ≤ 1048640) (w : World) : Calls Tryz.prog 78 #[.string ⟨s.toArray⟩, .int .u8 (c.toNat : Int)] w (SplPost s c w) := by
  have HI := Lib.hid (Tryz.strings_IndexByte ⟨s.toArray⟩ (c.toNat : Int) w)
  have hcs := ixb_cases s c
  have HS := Lib.hid (strIsL s)
  have hof : ((c.toNat : Int)).toNat.toUInt8 = c := by simp
  rw [hof, show (⟨s.toArray⟩ : ByteArray).data.toList = s from rfl] at HI
  rcases hcs with ⟨h1, h2⟩ | ⟨k, h1, h2, h3⟩
  · rw [h1] at HI
    have H2 := Lib.hid h2
    have HSE := Lib.hid (show Value.string ⟨s.toArray⟩ = .string ⟨s.toArray⟩ from rfl)
    clear h1 h2
    generalize hbs : (⟨s.toArray⟩ : ByteArray) = b at *
    have HBS := Lib.hid hbs
    clear hbs
    go_enter Tryz.func78, Tryz.ntmps78
    go_wp2_with fail
    refine HI.out.mono ?_
    rintro e w' ⟨rfl, rfl⟩
    go_wp2_with fail
    go_ret3
    exact ⟨Below.refl _ _, .inl ⟨H2.out, by rw [HBS.out]; rfl⟩⟩
  · rw [h1] at HI
    have H2 := Lib.hid h2
    have H3 := Lib.hid h3
    have hks : k < s.length := (List.getElem?_eq_some_iff.1 h2).1
    have hsl := ext_takeL HS.out k
    have hsr := ext_dropL HS.out (k + 1)
    have HT1 := Lib.hid (fun W => sTrim_any (s.take k) (by rw [List.length_take]; omega) W)
    have HT2 := Lib.hid (fun W => sTrim_any (s.drop (k + 1)) (by rw [List.length_drop]; omega) W)
    have hsz : (⟨s.toArray⟩ : ByteArray).size = s.length := rfl
    clear h1 h2 h3 hof
    generalize (⟨s.toArray⟩ : ByteArray) = b at *
    generalize (⟨(s.take k).toArray⟩ : ByteArray) = bu at *
    generalize (⟨(s.drop (k + 1)).toArray⟩ : ByteArray) = bv at *
    have k1 : k < b.size := by omega
    have k2 : (k : Int) < (b.size : Int) := by omega
    have k3 : (k : Int) + 1 ≤ (b.size : Int) := by omega
    have k4 : 0 ≤ (k : Int) + 1 := by omega
    have k5 : (k : Int) ≤ (b.size : Int) := by omega
    have k7 : 0 ≤ (k : Int) := by omega
    have hw2 : IntKind.i64.wrap ((k : Int) + 1) = (k : Int) + 1 := by rw [IntKind.wrap_i64]; omega
    have k6 : b.size ≤ 1048640 := by omega
    clear hsz hks hl
    go_enter Tryz.func78, Tryz.ntmps78
    go_wp2_with fail
    refine HI.out.mono ?_
    rintro e w' ⟨rfl, rfl⟩
    go_wp2_with fail
    have B0 := Below.refl w'.heap.size w'
    clear k1 k6
    go_region_held3 (fun W => Below w'.heap.size w' W) ((first | assumption | exact Below.drew (by assumption))) ((first
      | (go_at_call_of 140 (Value.string bu); refine (HT1.out _).mono ?_; rintro e w5 ⟨rfl, hb5⟩; first | (have B5 := below_newL B6 hb5) | (have B5 := below_newL (Below.drew B0) hb5))
      | (go_at_call_of 140 (Value.string bv); refine (HT2.out _).mono ?_; rintro e w6 ⟨rfl, hb6⟩; first | (have B6 := below_newL B5 hb6) | (have B6 := below_newL (Below.drew B0) hb6))))
    have HB6 := Lib.hid B6
    clear B5 B6 hb5 hb6
    go_wp2_with fail
    go_ret3
    exact ⟨HB6.out, .inr ⟨k, H2.out, H3.out, rfl⟩⟩
end Go.Proofs.YtoandhhkmkgmaaaGreatDoor
