/- Contracts that the law's proof leans on, and plain lemmas to them, merged. No condition beyond each contract's own hypotheses. -/
import Derived.Test.YtoandhhkmkgmaaaGreatDoorMg0
import Derived.Test.YtoandhhkmkgmaaaGreatDoorMg9
import Derived.Test.YtoandhhkmkgmaaaGreatDoorShelf
import Derived.Test.YtoandhhkmkgmaaaGreatDoorMg13
import Derived.Test.YtoandhhkmkgmaaaGreatDoorMg2
import Derived.Laws.RangeString
import Derived.Laws.RangeAny
import Derived.Laws.Runes
import Derived.BigQuiet
import Derived.Deep.RegionHeld3
import Derived.WalkMore
import Derived.Deep.QuietTactic
import Derived.Lib.Hide
import Derived.Lib.OthersKept
import Derived.Deep.LoopGhost
import Derived.Lib.TrimUEq
namespace Go.Proofs.YtoandhhkmkgmaaaGreatDoor
open Go.RowKit Go.Lib

def eqcS : ByteArray := ⟨#[61, 58]⟩
theorem eqcS_lt : ∀ x ∈ eqcS.data.toList, x.toNat < 128 := by decide
theorem iter_belowQ (w : World) (s : ByteArray) (pos : Nat) : Below w.heap.size w (w.iter s pos) := by
 exact below_new (Below.refl w.heap.size w) (.stringIter s pos)
set_option maxRecDepth 100000 in
set_option maxHeartbeats 4000000 in
theorem ixRune_errQ (w : World) : Calls Tryz.prog 136 #[.string eqcS, .int .i32 65533] w fun e w' => e = .returned (.int .i64 (-1)) ∧ Below w.heap.size w w' := by
 have HA : Hid (∀ i, (h : i < eqcS.size) → (eqcS[i]'h).toNat < 128) := Lib.hid (by decide)
 have hz : eqcS.size = 2 := rfl
 generalize eqcS = S at *
 go_enter Tryz.func136, Tryz.ntmps136
 go_wp2_with fail
 go_loopg [5, 6] 2 (fun g _ _ wx => ∃ i : Nat, i + g = 2 ∧ wx = w.iter S i)
 case atStart => exact ⟨0, by omega, rfl⟩
 case round =>
  obtain ⟨i, hig, rfl⟩ := hrel
  cases gk with
  | zero =>
    obtain rfl : i = 2 := by omega
    have hnx := fun ty => run_next_end (P := Tryz.prog) w S 2 ty (by omega)
    go_wp2_with fail
    go_ret
    exact ⟨rfl, iter_belowQ w S 2⟩
  | succ g =>
    have hi : i < S.size := by omega
    obtain ⟨x, hx⟩ : ∃ x : UInt8, S[i]'hi = x := ⟨_, rfl⟩
    have hx128 : x.toNat < 128 := by rw [← hx]; exact HA.out i (by omega)
    have hnx := fun ty => run_next_ascii (P := Tryz.prog) w S i ty hi (by rw [hx]; exact hx128)
    rw [hx] at hnx
    clear hx
    have hne : ¬ (((x.toNat : Nat) : Int) = 65533) := by omega
    go_wp2_with fail
    go_roundg g
    case measure => omega
    case rel => exact ⟨i + 1, by omega, rfl⟩
theorem indexByte_missQ (c : UInt8) : ∀ l : List UInt8, (∀ x ∈ l, x ≠ c) → Lib.indexByte l c = -1
 | [], _ => rfl
 | b :: l, h => by
   have h1 := indexByte_missQ c l (fun x hx => h x (List.mem_cons_of_mem _ hx))
   have h2 : (b == c) = false := by simpa using h b (by simp)
   rw [Lib.indexByte, h1, h2]
   rfl
theorem pat_missQ (c : UInt8) (h : 128 ≤ c.toNat) (m n : Nat) : Lib.indexByte (eqcS.extract m n).data.toList c = -1 := by
 apply indexByte_missQ
 intro x hx
 rw [Lib.extract_data] at hx
 have := eqcS_lt x (List.mem_of_mem_drop (List.mem_of_mem_take hx))
 intro e
 subst e
 omega
set_option maxRecDepth 100000 in
set_option maxHeartbeats 4000000 in
theorem ixRune_highQ (r : Int) (h0 : 128 ≤ r) (h1 : r ≤ 1114111) (hv : Lib.validRune r = true) (hne : ¬ r = 65533) (w : World) : Calls Tryz.prog 136 #[.string eqcS, .int .i32 r] w fun e w' => e = .returned (.int .i64 (-1)) ∧ Below w.heap.size w w' := by
 have cv := Tryz.utf8_ValidRune r w
 rw [hv] at cv
 have CV := Lib.hid cv
 clear cv
 have hv2 : Utf8.valid r = true := by
  unfold Lib.validRune at hv
  have := of_decide_eq_true hv
  unfold Utf8.valid
  simp
  omega
 have hf := encode_facts r hv2 h0
 have HMM := Lib.hid pat_missQ
 have hcv : ∀ W, (convert 21 9 (.int .i32 r)).run Tryz.prog W = .ok (.string (Utf8.encode r)) W := fun W => run_convert_int_string W 21 9 .i32 r (by kernel_rfl) (by kernel_rfl)
 have HA : Hid (∀ i, (h : i < eqcS.size) → (eqcS[i]'h).toNat < 128) := Lib.hid (by decide)
 have hz : eqcS.size = 2 := rfl
 clear hv hv2
 generalize eqcS = S at *
 generalize hE : Utf8.encode r = E at *
 obtain ⟨n, hn⟩ : ∃ n, E.size = n + 1 := ⟨E.size - 1, by omega⟩
 have hn1 : 1 ≤ n := by omega
 have hn3 : n ≤ 3 := by omega
 have hx : ∃ x : UInt8, E[n]'(by omega) = x ∧ 128 ≤ x.toNat := ⟨_, rfl, by have := hf.2.2 (by omega); simp only [hn, Nat.add_sub_cancel] at this; exact this⟩
 obtain ⟨x, hx, hx1⟩ := hx
 clear hf
 have CI : Hid (∀ a b W, Calls Tryz.prog 110 #[.string (S.extract a b), .int .u8 ((x.toNat : Nat) : Int)] W fun e w' => e = .returned (.int .i64 (-1)) ∧ W = w') := Lib.hid fun a b W => by
  have h1 := Tryz.strings_IndexByte (S.extract a b) ((x.toNat : Nat) : Int) W
  rw [show (((x.toNat : Nat) : Int)).toNat.toUInt8 = x by simp, HMM.out x hx1 a b] at h1
  exact h1.mono fun _ _ h => ⟨h.1, h.2.symm⟩
 have q1 : (1 : Int) < (S.size : Int) := by omega
 have q2 : ¬ (2 : Int) < (S.size : Int) := by omega
 have q3 : ¬ (3 : Int) < (S.size : Int) := by omega
 have q4 : (2 : Int) ≤ (S.size : Int) := by omega
 have w1 : IntKind.i64.wrap (1 + 1) = 2 := by decide
 have h12 : 1 < S.size := by omega
 have hy : (S[1]'h12).toNat < 128 := HA.out 1 h12
 generalize hY : S[1]'h12 = y at *
 have hxy : ((((y.toNat : Nat) : Int)) != ((x.toNat : Nat) : Int)) = true := by simp; omega
 clear hz
 rcases (by omega : n = 1 ∨ n = 2 ∨ n = 3) with rfl | rfl | rfl
 ·go_enter Tryz.func136, Tryz.ntmps136
  go_wp2_with fail
  refine CV.out.mono ?_
  rintro e w' ⟨rfl, rfl⟩
  go_wp2_with fail
  go_step3
  go_wp2_with fail
  go_loopg [9, 10] 1 (fun g s9 s10 wx => s9 = .int .i64 1 ∧ s10 = .int .i64 0 ∧ Below w'.heap.size w' wx)
  case atStart => exact ⟨by go_num, rfl, Below.refl _ _⟩
  case round =>
   obtain ⟨rfl, rfl, B0⟩ := hrel
   go_wp2_with fail
   go_step3
   go_wp2_with fail
   go_region
   go_wp2_with fail
   have B1 := B0.drew
   generalize wr.drew = wz at *
   go_quiet ((go_at_call 110; exact quiet_left (CI.out _ _ _)))
   go_wp2_with fail
   simp only [Exit.noGoto_ret, Exit.inBlock, Exit.then]
   go_ret
   exact ⟨rfl, below_drewN B1 _⟩
 ·go_enter Tryz.func136, Tryz.ntmps136
  go_wp2_with fail
  refine CV.out.mono ?_
  rintro e w' ⟨rfl, rfl⟩
  go_wp2_with fail
  go_step3
  go_wp2_with fail
  go_loopg [9, 10] 1 (fun g s9 s10 wx => s9 = .int .i64 2 ∧ s10 = .int .i64 0 ∧ Below w'.heap.size w' wx)
  case atStart => exact ⟨by go_num, rfl, Below.refl _ _⟩
  case round =>
   obtain ⟨rfl, rfl, B0⟩ := hrel
   go_wp2_with fail
   simp only [Exit.noGoto_ret, Exit.inBlock]
   go_ret
   exact ⟨rfl, B0⟩
 ·go_enter Tryz.func136, Tryz.ntmps136
  go_wp2_with fail
  refine CV.out.mono ?_
  rintro e w' ⟨rfl, rfl⟩
  go_wp2_with fail
  go_step3
  go_wp2_with fail
  go_loopg [9, 10] 1 (fun g s9 s10 wx => s9 = .int .i64 3 ∧ s10 = .int .i64 0 ∧ Below w'.heap.size w' wx)
  case atStart => exact ⟨by go_num, rfl, Below.refl _ _⟩
  case round =>
   obtain ⟨rfl, rfl, B0⟩ := hrel
   go_wp2_with fail
   simp only [Exit.noGoto_ret, Exit.inBlock]
   go_ret
   exact ⟨rfl, B0⟩
set_option maxRecDepth 100000 in
set_option maxHeartbeats 4000000 in
theorem ixRune_badQ (r : Int) (h0 : 128 ≤ r) (hv : Lib.validRune r = false) (hne : ¬ r = 65533) (w : World) : Calls Tryz.prog 136 #[.string eqcS, .int .i32 r] w fun e w' => e = .returned (.int .i64 (-1)) ∧ Below w.heap.size w w' := by
 have cv := Tryz.utf8_ValidRune r w
 rw [hv] at cv
 have CV := Lib.hid cv
 clear cv hv
 generalize eqcS = S at *
 go_enter Tryz.func136, Tryz.ntmps136
 go_wp2_with fail
 refine CV.out.mono ?_
 rintro e w' ⟨rfl, rfl⟩
 go_wp2_with fail
 go_ret
 exact ⟨rfl, Below.refl _ _⟩
theorem ixRune_beyondQ (r : Int) (h0 : 128 ≤ r) (h1 : r ≤ 1114111) (w : World) : Calls Tryz.prog 136 #[.string eqcS, .int .i32 r] w fun e w' => e = .returned (.int .i64 (-1)) ∧ Below w.heap.size w w' := by
 by_cases he : r = 65533
 ·subst he; exact ixRune_errQ w
 ·cases hv : Lib.validRune r with
  | true => exact ixRune_highQ r h0 h1 hv he w
  | false => exact ixRune_badQ r h0 hv he w
set_option maxRecDepth 100000 in
set_option maxHeartbeats 1000000 in
theorem ixRune_lowQ (c : UInt8) (h : c.toNat < 128) (w : World) : Calls Tryz.prog 136 #[.string eqcS, .int .i32 (c.toNat : Int)] w fun e w' => e = .returned (.int .i64 (Lib.indexByte [61, 58] c)) ∧ w = w' := by
 have h1 := Tryz.strings_IndexByte eqcS (c.toNat : Int) w
 rw [show ((c.toNat : Int)).toNat.toUInt8 = c by simp, show eqcS.data.toList = [61, 58] from rfl] at h1
 have H1 := Lib.hid h1
 have hi : (0 : Int) ≤ (c.toNat : Int) := by omega
 have hj : (c.toNat : Int) < 128 := by omega
 have hw : IntKind.u8.wrap (c.toNat : Int) = (c.toNat : Int) := by simp [IntKind.wrap, IntKind.signed, IntKind.bits]; omega
 generalize (c.toNat : Int) = ci at *
 generalize Lib.indexByte [61, 58] c = R at *
 generalize eqcS = S at *
 clear h1
 go_enter Tryz.func136, Tryz.ntmps136
 go_wp2_with fail
 refine H1.out.mono ?_
 rintro e w1 ⟨rfl, rfl⟩
 go_wp2_with fail
 go_ret
 exact ⟨rfl, rfl⟩
theorem decode_contQ (s : ByteArray) (pos : Nat) (h : pos < s.size) (ha : 128 ≤ (s[pos]'h).toNat) (j : Nat) (hj : pos ≤ j) (hj2 : j < pos + (Utf8.decode s pos).2) (hs : j < s.size) : 128 ≤ (s[j]'hs).toNat := by
 rw [Lib.decode_at] at hj2
 have hg : ∀ k (hk : k < s.size), s.get! k = s[k]'hk := fun k hk => by
  simp [ByteArray.get!, getElem!_pos, hk]
  rfl
 by_cases h0 : j = pos
 ·subst h0; exact ha
 ·have hget : ∀ k, pos + k = j → (s.get! (pos + k)).toNat / 64 = 2 → 128 ≤ (s[j]'hs).toNat := fun k hk h2 => by
   rw [hg (pos + k) (by omega)] at h2
   have e : (s[pos + k]'(by omega)).toNat = (s[j]'hs).toNat := by simp only [hk]
   omega
  have hb0 : ¬ (s.get! pos).toNat < 128 := by rw [hg pos h]; omega
  unfold Lib.decodeN at hj2
  rw [if_neg hb0] at hj2
  split at hj2
  ·rename_i hc
   have hlt : j < pos + 2 := by
    split at hj2 <;> simp at hj2 <;> omega
   exact hget 1 (by omega) hc.2.2
  ·split at hj2
   ·rename_i hc
    have hlt : j < pos + 3 := by
     split at hj2 <;> simp at hj2 <;> omega
    rcases (by omega : j = pos + 1 ∨ j = pos + 2) with hh | hh
    ·exact hget 1 hh.symm hc.2.1.2
    ·exact hget 2 hh.symm hc.2.2.2
   ·split at hj2
    ·rename_i hc
     have hlt : j < pos + 4 := by
      split at hj2 <;> simp at hj2 <;> omega
     rcases (by omega : j = pos + 1 ∨ j = pos + 2 ∨ j = pos + 3) with hh | hh | hh
     ·exact hget 1 hh.symm hc.2.1.2
     ·exact hget 2 hh.symm hc.2.2.1.2
     ·exact hget 3 hh.symm hc.2.2.2.2
    ·simp at hj2
     omega
theorem ixa_hit {s : List UInt8} {k : Nat} {c : UInt8} (hk : s[k]? = some c) (hc : c = 61 ∨ c = 58) (hall : ∀ (j : Nat) (x : UInt8), j < k → s[j]? = some x → x ≠ 61 ∧ x ≠ 58) : Lib.indexAny s [61, 58] = (k : Int) := by
 induction s generalizing k with
 | nil => cases hk
 | cons b l ih =>
   rw [Lib.indexAny]
   cases k with
   | zero =>
     simp at hk
     subst hk
     rw [if_pos (by rcases hc with rfl | rfl <;> decide)]
     rfl
   | succ k =>
     have h0 := hall 0 b (by omega) rfl
     have := ih (k := k) (by simpa using hk) (fun j x hj hx => hall (j + 1) x (by omega) (by simpa using hx))
     rw [if_neg (by simp; exact ⟨h0.1, h0.2⟩), this, if_neg (by simp)]
     omega
theorem ixa_miss {s : List UInt8} (hall : ∀ (j : Nat) (x : UInt8), s[j]? = some x → x ≠ 61 ∧ x ≠ 58) : Lib.indexAny s [61, 58] = -1 := by
 induction s with
 | nil => rfl
 | cons b l ih =>
   rw [Lib.indexAny]
   have h0 := hall 0 b rfl
   have := ih (fun j x hx => hall (j + 1) x (by simpa using hx))
   rw [if_neg (by simp; exact ⟨h0.1, h0.2⟩), this]
   rfl
end Go.Proofs.YtoandhhkmkgmaaaGreatDoor
namespace Go.Proofs.YtoandhhkmkgmaaaGreatDoor
open Go.RowKit Go.Lib

theorem decode_le_rune (s : ByteArray) (pos : Nat) : (Utf8.decode s pos).1 ≤ 1114111 := by
 rw [Lib.decode_at]
 have hb : ∀ k, (s.get! k).toNat < 256 := fun k => (s.get! k).toNat_lt
 have h0 := hb pos; have h1 := hb (pos + 1); have h2 := hb (pos + 2); have h3 := hb (pos + 3)
 generalize (s.get! pos).toNat = a at *
 generalize (s.get! (pos + 1)).toNat = b at *
 generalize (s.get! (pos + 2)).toNat = c at *
 generalize (s.get! (pos + 3)).toNat = d at *
 unfold Lib.decodeN
 repeat' split
 all_goals simp
 all_goals omega
def ixQ (s : ByteArray) (pos : Nat) : Int := if (s.get! pos).toNat < 128 then Lib.indexByte [61, 58] (s.get! pos) else -1
theorem ixQ_low {s : ByteArray} {pos : Nat} (h : pos < s.size) (ha : (s[pos]'h).toNat < 128) : ixQ s pos = Lib.indexByte [61, 58] (s[pos]'h) := by
 have e : s.get! pos = s[pos]'h := by
  simp [ByteArray.get!, getElem!_pos, h]
  rfl
 simp [ixQ, e, ha]
theorem ixQ_high {s : ByteArray} {pos : Nat} (h : pos < s.size) (ha : 128 ≤ (s[pos]'h).toNat) : ixQ s pos = -1 := by
 have e : s.get! pos = s[pos]'h := by
  simp [ByteArray.get!, getElem!_pos, h]
  rfl
 simp only [ixQ, e]
 rw [if_neg (by omega)]
theorem ixRune_any (s : ByteArray) (pos : Nat) (h : pos < s.size) (w : World) : Calls Tryz.prog 136 #[.string eqcS, .int .i32 ((Utf8.decode s pos).1 : Int)] w fun e w' => e = .returned (.int .i64 (ixQ s pos)) ∧ Below w.heap.size w w' := by
 by_cases ha : (s[pos]'h).toNat < 128
 ·rw [decode_ascii s pos h ha, ixQ_low h ha]
  exact (ixRune_lowQ (s[pos]'h) ha w).mono fun _ _ q => ⟨q.1, q.2 ▸ Below.refl _ _⟩
 ·have hh := decode_high s pos h (by omega)
  rw [ixQ_high h (by omega)]
  exact ixRune_beyondQ _ (by have := hh.1; omega) (by have := decode_le_rune s pos; omega) w
theorem sign_of {c : UInt8} : (Lib.indexByte [61, 58] c = -1 ∧ c ≠ 61 ∧ c ≠ 58) ∨ (0 ≤ Lib.indexByte [61, 58] c ∧ (c = 61 ∨ c = 58)) := by
 by_cases h1 : c = 61
 ·subst h1; exact .inr ⟨by decide, .inl rfl⟩
 by_cases h2 : c = 58
 ·subst h2; exact .inr ⟨by decide, .inr rfl⟩
 refine .inl ⟨?_, h1, h2⟩
 apply indexByte_missQ
 intro x hx
 simp at hx
 rcases hx with rfl | rfl
 ·exact fun h => h1 h.symm
 ·exact fun h => h2 h.symm
def Scanned (s : ByteArray) (pos : Nat) : Prop := ∀ (j : Nat) (x : UInt8), j < pos → s.data.toList[j]? = some x → x ≠ 61 ∧ x ≠ 58
theorem at_list {s : ByteArray} {pos : Nat} (h : pos < s.size) : s.data.toList[pos]? = some (s[pos]'h) := by
 rw [Array.getElem?_toList]
 exact Array.getElem?_eq_getElem (xs := s.data) h
theorem scanned_next {s : ByteArray} {pos : Nat} (h : pos < s.size) (hs : Scanned s pos) (hq : ixQ s pos < 0) : Scanned s (pos + (Utf8.decode s pos).2) := by
 intro j x hj hx
 by_cases hlt : j < pos
 ·exact hs j x hlt hx
 have hjs : j < s.size := by
  have := (List.getElem?_eq_some_iff.1 hx).1
  simpa using this
 rw [at_list hjs] at hx
 cases hx
 by_cases ha : (s[pos]'h).toNat < 128
 ·rw [decode_ascii s pos h ha] at hj
  obtain rfl : j = pos := by simp at hj; omega
  rw [ixQ_low h ha] at hq
  rcases sign_of (c := s[j]'h) with h1 | h1
  ·exact h1.2
  ·omega
 ·have := decode_contQ s pos h (by omega) j (by omega) hj hjs
  constructor <;> intro e <;> rw [e] at this <;> revert this <;> decide
theorem scanned_hit {s : ByteArray} {pos : Nat} (h : pos < s.size) (hs : Scanned s pos) (hq : 0 ≤ ixQ s pos) : Lib.indexAny s.data.toList [61, 58] = (pos : Int) := by
 by_cases ha : (s[pos]'h).toNat < 128
 ·rw [ixQ_low h ha] at hq
  rcases sign_of (c := s[pos]'h) with h1 | h1
  ·omega
  ·exact ixa_hit (at_list h) h1.2 hs
 ·rw [ixQ_high h (by omega)] at hq
  omega
theorem scanned_end {s : ByteArray} {pos : Nat} (h : ¬ pos < s.size) (hs : Scanned s pos) : Lib.indexAny s.data.toList [61, 58] = -1 := by
 apply ixa_miss
 intro j x hx
 have hjs : j < s.size := by
  have := (List.getElem?_eq_some_iff.1 hx).1
  simpa using this
 exact hs j x (by omega) hx
set_option maxRecDepth 100000 in
set_option maxHeartbeats 4000000 in
theorem ixAny_short (s : ByteArray) (h8 : s.size ≤ 8) (w : World) : Calls Tryz.prog 77 #[.string s, .string eqcS] w fun e w' => e = .returned (.int .i64 (Lib.indexAny s.data.toList [61, 58])) ∧ Below w.heap.size w w' := by
 have hsh := Tryz.strings_shouldUseASCIISet (s.size : Int) w
 rw [show decide (8 < (s.size : Int)) = false by simp; omega] at hsh
 have HSH := Lib.hid hsh
 clear hsh
 have HR := Lib.hid (ixRune_any s)
 have q1 : eqcS.toList.isEmpty = false := by rw [Lib.toList_data]; rfl
 have q2 : ((eqcS.size : Int) == 1) = false := by decide
 have hz : eqcS.size = 2 := rfl
 have HSC : Hid (∀ pos, pos < s.size → Scanned s pos → ixQ s pos < 0 → Scanned s (pos + (Utf8.decode s pos).2)) := Lib.hid fun _ => scanned_next
 have HHI : Hid (∀ pos, pos < s.size → Scanned s pos → 0 ≤ ixQ s pos → Lib.indexAny s.data.toList [61, 58] = (pos : Int)) := Lib.hid fun _ => scanned_hit
 have HEN : Hid (∀ pos, ¬ pos < s.size → Scanned s pos → Lib.indexAny s.data.toList [61, 58] = -1) := Lib.hid fun _ => scanned_end
 generalize Lib.indexAny s.data.toList [61, 58] = RES at *
 generalize eqcS = S at *
 go_enter Tryz.func77, Tryz.ntmps77
 go_wp2_with fail
 refine HSH.out.mono ?_
 rintro e w' ⟨rfl, rfl⟩
 go_wp2_with fail
 go_loopg [] s.size (fun gf wx => ∃ pos : Nat, wx.heap[w'.heap.size]? = some (.stringIter s pos) ∧ Below w'.heap.size w' wx ∧ Scanned s pos ∧ s.size ≤ pos + gf)
 case atStart => exact ⟨0, World.iter_heap w' s 0, (Below.refl _ w').alloc (Nat.le_refl _) _, fun j x hj _ => absurd hj (by omega), by omega⟩
 case round =>
  obtain ⟨pos, hit, hbw, hsc, hfu⟩ := hrel
  by_cases hps : pos < s.size
  ·obtain ⟨g', rfl⟩ : ∃ g', gk = g' + 1 := ⟨gk - 1, by omega⟩
   have hnx : ∀ ty, (Instr.next (.pointer (some ⟨w'.heap.size, 0, none⟩)) true ty).run Tryz.prog wr = _ := fun ty => Lib.run_next_any_at wr w'.heap.size s pos ty hit hps
   have hwd := Lib.width_pos s pos
   have HR2 := Lib.hid (HR.out pos hps)
   have hs2 := HSC.out pos hps hsc
   have hh2 := HHI.out pos hps hsc
   have hit2 := Lib.iterAt_heap wr w'.heap.size s pos (pos + (Utf8.decode s pos).2) hit
   have hbw2 := Lib.below_iterAt hbw (k := w'.heap.size) (Nat.le_refl _) s (pos + (Utf8.decode s pos).2)
   generalize (Utf8.decode s pos).1 = R at *
   generalize (Utf8.decode s pos).2 = K at *
   generalize ixQ s pos = Q at *
   generalize wr.iterAt w'.heap.size s (pos + K) = W at *
   clear hsc hbw hit
   by_cases hq : 0 ≤ Q
   ·go_wp2_with fail
    refine (HR2.out _).mono ?_
    rintro e W' ⟨rfl, B⟩
    go_wp2_with fail
    go_ret
    exact ⟨by rw [hh2 hq]; rfl, hbw2.trans (B.mono hbw2.size)⟩
   ·have hq2 : Q < 0 := by omega
    go_wp2_with fail
    refine (HR2.out _).mono ?_
    rintro e W' ⟨rfl, B⟩
    go_wp2_with fail
    go_roundg g'
    case measure => omega
    case rel => exact ⟨pos + K, by rw [B.block _ (by have := hbw2.size; exact (Array.getElem?_eq_some_iff.1 hit2).1)]; exact hit2, hbw2.trans (B.mono hbw2.size), hs2 hq2, by omega⟩
  ·have hnx : ∀ ty, (Instr.next (.pointer (some ⟨w'.heap.size, 0, none⟩)) true ty).run Tryz.prog wr = _ := fun ty => Lib.run_next_end_at wr w'.heap.size s pos ty hit hps
   have hee := HEN.out pos hps hsc
   go_wp2_with fail
   go_ret
   exact ⟨by rw [hee]; rfl, hbw⟩
theorem ixAny_any (s : ByteArray) (hs : s.size < 4294967281) (w : World) : Calls Tryz.prog 77 #[.string s, .string eqcS] w fun e w' => e = .returned (.int .i64 (Lib.indexAny s.data.toList [61, 58])) ∧ Below w.heap.size w w' := by
 by_cases h8 : s.size ≤ 8
 ·exact ixAny_short s h8 w
 ·refine (Tryz.strings_IndexAny_long (by intro w; kernel_rfl) s eqcS w (by decide) (by omega) hs (by decide) (fun j b hj => eqcS_lt b (List.mem_of_getElem? hj))).mono ?_
  rintro e w' ⟨rfl, rfl⟩
  refine ⟨rfl, ?_⟩
  exact ((Below.refl _ w).alloc (Nat.le_refl _) _).alloc (by simp) _
end Go.Proofs.YtoandhhkmkgmaaaGreatDoor
