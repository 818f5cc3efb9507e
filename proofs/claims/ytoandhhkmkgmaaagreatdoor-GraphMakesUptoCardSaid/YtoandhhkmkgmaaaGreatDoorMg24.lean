/- Contracts that the law's proof leans on, and plain lemmas to them, merged. No condition beyond each contract's own hypotheses. -/
import Derived.Test.YtoandhhkmkgmaaaGreatDoorRows
import Derived.Test.YtoandhhkmkgmaaaGreatDoorMg0
import Derived.Test.YtoandhhkmkgmaaaGreatDoorMg23
import Derived.WalkKit
import Derived.WalkSpells
import Derived.WalkLawsBesides
import Derived.Outline
import Derived.BigQuiet
import Derived.Deep.QuietTactic
import Derived.Lib.Hide
import Derived.Test.YtoandhhkmkgmaaaGreatDoorMg4
import Derived.Test.YtoandhhkmkgmaaaGreatDoorMg9
import Derived.Maps.AppendAt
import Derived.OneCell
namespace Go.Proofs.YtoandhhkmkgmaaaGreatDoor
open Go.RowKit

def Tab (w : World) : Prop := 0 < w.heap.size ∧ ∀ j, j < 64 → w.cell? ⟨0, j, none⟩ = some (.int .u8 (Lib.deBruijn64tab.getD j 0))
theorem Tab.below {w w' : World} (h : Tab w) (hb : Below w.heap.size w w') : Tab w' :=
 ⟨Nat.lt_of_lt_of_le h.1 hb.size, fun j hj => (hb.cell (p := ⟨_, j, none⟩) h.1).trans (h.2 j hj)⟩

theorem onesCount_any (s : Nat) (hs : B64 s) (w : World) :
 Calls Tryz.prog 179 #[.int .u64 s] w fun e w' => e = .returned (.int .i64 ((nums s).length : Nat)) ∧ w = w' := by
 have hp := Lib.hid (pop_st s hs)
 clear hs
 have r1 : ∀ x : Int, IntKind.u64.wrap (bits .and .u64 (x / 2) 6148914691236517205 + bits .and .u64 x 6148914691236517205) = st1 x := fun _ => rfl
 have r2 : ∀ x : Int, IntKind.u64.wrap (bits .and .u64 (st1 x / 4) 3689348814741910323 + bits .and .u64 (st1 x) 3689348814741910323) = st2 (st1 x) := fun _ => rfl
 have r3 : ∀ x : Int, bits .and .u64 (IntKind.u64.wrap (st2 x / 16 + st2 x)) 1085102592571150095 = st3 (st2 x) := fun _ => rfl
 have r4 : ∀ x : Int, IntKind.u64.wrap (st3 x + st3 x / 256) = st4 (st3 x) := fun _ => rfl
 have r5 : ∀ x : Int, IntKind.u64.wrap (st4 x + st4 x / 65536) = st5 (st4 x) := fun _ => rfl
 have r6 : ∀ x : Int, IntKind.u64.wrap (st5 x + st5 x / 4294967296) = st6 (st5 x) := fun _ => rfl
 have r7 : ∀ x : Int, bits .and .i64 x 127 = st7 x := fun _ => rfl
 go_enter Tryz.func179, Tryz.ntmps179
 go_wp2
 go_ret
 exact ⟨ret_int hp.out, rfl⟩
theorem count_any (s : Nat) (hs : B64 s) (w : World) :
 Calls Tryz.prog 130 #[.int .u64 s] w fun e w' => e = .returned (.int .i64 ((nums s).length : Nat)) ∧ w = w' := by
 have H := Lib.hid hs
 clear hs
 go_enter Tryz.func130, Tryz.ntmps130
 go_wp2_with (go_at_call 179; refine (onesCount_any _ H.out _).mono ?_; rintro e w' ⟨rfl, rfl⟩)
 go_ret
 exact ⟨rfl, rfl⟩

theorem tz_key (x : Nat) (hx : B64 x) (hx0 : x ≠ 0) :
 IntKind.u64.wrap (bits BinOp.and IntKind.u64 (x : Int) (IntKind.u64.wrap (-(x : Int))) * 285870213051353865) / 288230376151711744 = ((2 ^ low x * 285870213051353865 % 18446744073709551616 / 288230376151711744 : Nat) : Int) := by
 have h64 : x < 18446744073709551616 := hx
 have e1 : IntKind.u64.wrap (-(x : Int)) = ((18446744073709551616 - x : Nat) : Int) := by rw [IntKind.wrap_u64]; omega
 have hl : x &&& (18446744073709551616 - x) = 2 ^ low x := (Lib.lowest_bit 64 x hx0 hx).1
 rw [e1, u64_and_nat x _ h64 (by omega), hl, IntKind.wrap_u64]
 omega
theorem tz_core (x k idx : Nat) (w : World) (hx0 : ((x : Int) == 0) = false)
 (key : IntKind.u64.wrap (bits BinOp.and IntKind.u64 (x : Int) (IntKind.u64.wrap (-(x : Int))) * 285870213051353865) / 288230376151711744 = (idx : Int))
 (hi : idx < 64) (hk : k < 64) (hcell : w.cell? ⟨0, idx, none⟩ = some (.int .u8 k)) :
 Calls Tryz.prog 180 #[.int .u64 x] w fun e w' => e = .returned (.int .i64 k) ∧ w = w' := by
 go_enter Tryz.func180, Tryz.ntmps180
 go_wp2_with (simp only [key])
 go_ret
 exact ⟨rfl, rfl⟩
theorem tz_any (s : Nat) (hs : B64 s) (h0 : s ≠ 0) (w : World) (ht : Tab w) :
 Calls Tryz.prog 180 #[.int .u64 s] w fun e w' => e = .returned (.int .i64 (low s : Nat)) ∧ w = w' := by
 obtain ⟨hi, htab⟩ := Lib.deBruijn64_at _ (low_lt hs h0)
 have hcell := ht.2 _ hi
 rw [htab] at hcell
 exact tz_core s _ _ w (by simp; omega) (tz_key s hs h0) hi (low_lt hs h0) hcell
theorem least_any (s : Nat) (hs : B64 s) (h0 : s ≠ 0) (w : World) (ht : Tab w) :
 Calls Tryz.prog 131 #[.int .u64 s] w fun e w' => e = .returned (.int .i64 (low s : Nat)) ∧ w = w' := by
 have H := Lib.hid hs
 have H0 := Lib.hid h0
 have HT := Lib.hid ht
 clear hs h0 ht
 go_enter Tryz.func131, Tryz.ntmps131
 go_wp2_with (go_at_call 180; refine (tz_any _ H.out H0.out _ HT.out).mono ?_; rintro e w' ⟨rfl, rfl⟩)
 go_ret
 exact ⟨rfl, rfl⟩

end Go.Proofs.YtoandhhkmkgmaaaGreatDoor
namespace Go.Proofs.YtoandhhkmkgmaaaGreatDoor
open Go.RowKit

def inS (s : Nat) (n : Int) : Bool := decide (0 ≤ n) && s.testBit n.toNat
theorem in_raw (s k : Nat) : ((((s : Int) / 2 ^ k).tmod 2) == 1) = s.testBit k := by
 rw [Nat.testBit_eq_decide_div_mod_eq]
 have hc : (s : Int) / 2 ^ k = ((s / 2 ^ k : Nat) : Int) := by simp
 rw [hc, Int.tmod_eq_emod_of_nonneg (Int.natCast_nonneg _), Bool.eq_iff_iff]
 simp
 omega
theorem in_any (s : Nat) (hs : B64 s) (n : Int) (w : World) :
 Calls Tryz.prog 58 #[.int .u64 s, .int .i64 n] w fun e w' => e = .returned (.bool (inS s n)) ∧ w = w' := by
 by_cases h0 : 0 ≤ n
 ·by_cases h1 : n < 64
  ·have hr := Lib.hid (in_raw s n.toNat)
   clear hs
   go_enter Tryz.func58, Tryz.ntmps58
   go_wp2
   go_ret
   exact ⟨ret_bool (by unfold inS; simp only [h0, decide_true, Bool.true_and]; exact hr.out), rfl⟩
  ·have hf : inS s n = false := by unfold inS; rw [hs.ge (by omega)]; simp
   have H := Lib.hid hf
   clear hs hf
   go_enter Tryz.func58, Tryz.ntmps58
   go_wp2
   go_ret
   exact ⟨ret_bool H.out.symm, rfl⟩
 ·have hf : inS s n = false := by unfold inS; simp [h0]
  have H := Lib.hid hf
  clear hs hf
  go_enter Tryz.func58, Tryz.ntmps58
  go_wp2
  go_ret
  exact ⟨ret_bool H.out.symm, rfl⟩
theorem in_nat (s : Nat) (hs : B64 s) (n : Nat) (w : World) :
 Calls Tryz.prog 58 #[.int .u64 s, .int .i64 n] w fun e w' => e = .returned (.bool (s.testBit n)) ∧ w = w' :=
 (in_any s hs n w).mono fun e w' ⟨he, hw⟩ => ⟨by rw [he]; unfold inS; simp, hw⟩

theorem shl_raw (n : Nat) (h : n < 64) : IntKind.u64.wrap (2 ^ n) = ((2 ^ n : Nat) : Int) := by
 have hp : 2 ^ n ≤ 2 ^ 63 := Nat.pow_le_pow_right (by decide) (by omega)
 have hc : (2 : Int) ^ n = ((2 ^ n : Nat) : Int) := by simp
 rw [hc, wrap_u _ (by omega)]
theorem or_bit (s n i : Nat) : (s ||| 2 ^ n).testBit i = (s.testBit i || decide (n = i)) := by
 rw [Nat.testBit_or, Nat.testBit_two_pow]

def addN (s n : Nat) : Nat := s ||| 2 ^ n
theorem addN_b64 {s n : Nat} (hs : B64 s) (hn : n < 64) : B64 (addN s n) := hs.or (B64.two hn)
theorem or_raw (s n : Nat) (hs : B64 s) (hn : n < 64) : bits .or .u64 (s : Int) (IntKind.u64.wrap (2 ^ n)) = (addN s n : Nat) := by
 rw [shl_raw n hn, u64_or_nat s _ hs (B64.two hn)]; rfl
theorem take_snoc {α : Type} (l : List α) (d : α) (k : Nat) (h : k < l.length) : l.take (k + 1) = l.take k ++ [l[k]?.getD d] := by
 rw [List.take_succ_eq_append_getElem h]
 simp [h]
end Go.Proofs.YtoandhhkmkgmaaaGreatDoor
namespace Go.Proofs.YtoandhhkmkgmaaaGreatDoor

def rowAt (l : List Nat) (i : Nat) : Nat := l[i]?.getD 0
def Rows64 (l : List Nat) : Prop := ∀ i, B64 (rowAt l i)
def Good (l : List Nat) : Prop := l.length ≤ 64 ∧ ∀ i j, (rowAt l i).testBit j = true → j < l.length
theorem Good.b64 {l : List Nat} (h : Good l) : Rows64 l := fun i => B64.of_bits fun j hj => Nat.lt_of_lt_of_le (h.2 i j hj) h.1
def orRows (l : List Nat) (s o : Nat) : Nat → Nat
 | 0 => o
 | k + 1 => if s.testBit k then orRows l s o k ||| rowAt l k else orRows l s o k
theorem count_one {p q : Nat → Bool} {i : Nat} (hp : p i = true) (hq : q i = false) (h : ∀ j, j ≠ i → p j = q j) : ∀ L : List Nat, i ∈ L → L.Nodup → (L.filter p).length = (L.filter q).length + 1
 | [], hm, _ => by cases hm
 | x :: L, hm, hnd => by
   rw [List.nodup_cons] at hnd
   rw [List.filter_cons, List.filter_cons]
   by_cases hx : x = i
   ·subst hx
    rw [hp, hq]
    simp only [if_true, List.length_cons, Bool.false_eq_true, if_false]
    congr 2
    apply List.filter_congr
    intro y hy
    exact h y (fun e => hnd.1 (e ▸ hy))
   ·have hm' : i ∈ L := by
     rcases List.mem_cons.1 hm with e | e
     ·exact absurd e.symm hx
     ·exact e
    have ih := count_one hp hq h L hm' hnd.2
    rw [h x hx]
    cases q x
    ·simpa using ih
    ·simpa using ih
end Go.Proofs.YtoandhhkmkgmaaaGreatDoor
namespace Go.Proofs.YtoandhhkmkgmaaaGreatDoor
open Go.RowKit

theorem minus_raw (s t : Nat) (hs : B64 s) (ht : B64 t) : bits .andNot .u64 (s : Int) (t : Int) = (minus s t : Nat) := u64_andNot_nat s t hs ht
def dropS (s : Nat) : Nat → Nat
 | 0 => s
 | j + 1 => drop1 (dropS s j)
theorem dropS_b64 {s : Nat} (h : B64 s) (j : Nat) : B64 (dropS s j) := by
 induction j with
 | zero => exact h
 | succ j ih => exact drop1_b64 ih
theorem dropS_nums {s : Nat} (h : B64 s) (j : Nat) (hj : j ≤ (nums s).length) : nums (dropS s j) = (nums s).drop j := by
 induction j with
 | zero => rfl
 | succ j ih =>
   have ih := ih (by omega)
   have h0 : dropS s j ≠ 0 := fun h0 => by
    rw [h0, nums_zero] at ih
    have := congrArg List.length ih
    simp at this
    omega
   have := nums_step (dropS_b64 h j) h0
   rw [ih] at this
   have h2 := congrArg List.tail this
   rw [List.tail_drop, List.tail_cons] at h2
   exact h2.symm
theorem dropS_ne {s : Nat} (h : B64 s) {j : Nat} (hj : j < (nums s).length) : dropS s j ≠ 0 := fun h0 => by
 have := dropS_nums h j (by omega)
 rw [h0, nums_zero] at this
 have := congrArg List.length this
 simp at this
 omega
theorem dropS_low {s : Nat} (h : B64 s) {j : Nat} (hj : j < (nums s).length) : low (dropS s j) = (nums s)[j]?.getD 0 := by
 have h1 := nums_step (dropS_b64 h j) (dropS_ne h hj)
 rw [dropS_nums h j (by omega)] at h1
 have := congrArg List.head? h1
 rw [List.head?_drop] at this
 simp [hj] at this
 simp [hj, this]
theorem drop1_raw (s : Nat) (h : B64 s) (h0 : s ≠ 0) : bits .and .u64 (s : Int) (IntKind.u64.wrap ((s : Int) - 1)) = (drop1 s : Nat) := by
 have h' : s < 18446744073709551616 := h
 have e : (s : Int) - 1 = ((s - 1 : Nat) : Int) := by omega
 rw [e, wrap_u _ (by omega), u64_and_nat s _ h' (by omega)]
 rfl
end Go.Proofs.YtoandhhkmkgmaaaGreatDoor
namespace Go.Proofs.YtoandhhkmkgmaaaGreatDoor

def pickO (l : List Nat) (s : Nat) : Option Nat := (nums s).find? fun i => decide (rowAt l i &&& s = 0)
theorem pickO_some {l : List Nat} {s i : Nat} (h : pickO l s = some i) (hs : B64 s) : s.testBit i = true ∧ rowAt l i &&& s = 0 := by
 have h1 := List.find?_some h
 have h2 := List.mem_of_find?_eq_some h
 exact ⟨(mem_nums hs).1 h2, of_decide_eq_true h1⟩
theorem pickO_none {l : List Nat} {s : Nat} (hs : B64 s) : pickO l s = none ↔ ∀ j, s.testBit j = true → rowAt l j &&& s ≠ 0 := by
 unfold pickO
 rw [List.find?_eq_none]
 constructor
 ·intro h j hj h0
  exact h j ((mem_nums hs).2 hj) (decide_eq_true h0)
 ·intro h j hj h0
  exact h j ((mem_nums hs).1 hj) (of_decide_eq_true h0)
theorem find_first {p : Nat → Bool} : ∀ {L : List Nat}, L.Pairwise (· < ·) → ∀ {i : Nat}, i ∈ L → p i = true → (∀ j ∈ L, j < i → p j = false) → L.find? p = some i
 | [], _, _, hm, _, _ => by cases hm
 | x :: L, hp, i, hm, hpi, hlt => by
   rw [List.pairwise_cons] at hp
   rw [List.find?_cons]
   rcases List.mem_cons.1 hm with rfl | hm'
   ·rw [hpi]
   ·have := hlt x (by simp) (hp.1 i hm')
    rw [this]
    exact find_first hp.2 hm' hpi (fun j hj hji => hlt j (by simp [hj]) hji)
theorem pickO_first {l : List Nat} {s i : Nat} (hs : B64 s) (hi : s.testBit i = true) (h0 : rowAt l i &&& s = 0) (hlt : ∀ j, j < i → s.testBit j = true → rowAt l j &&& s ≠ 0) : pickO l s = some i :=
 find_first (nums_sorted s) ((mem_nums hs).2 hi) (decide_eq_true h0) (fun j hj hji => decide_eq_false (hlt j hji ((mem_nums hs).1 hj)))

def drop (s i : Nat) : Nat := minus s (2 ^ i)
theorem drop_bit {s i : Nat} (hs : B64 s) (hi : i < 64) (j : Nat) : (drop s i).testBit j = (s.testBit j && decide (j ≠ i)) := by
 unfold drop
 rw [minus_bit hs (B64.two hi), Nat.testBit_two_pow]
 by_cases h : i = j
 ·subst h; simp
 ·have h' : j ≠ i := fun e => h e.symm
  simp [h, h']
theorem drop_b64 {s i : Nat} (hs : B64 s) : B64 (drop s i) := minus_b64 hs
theorem drop_len {s i : Nat} (hs : B64 s) (hi : s.testBit i = true) : (nums s).length = (nums (drop s i)).length + 1 := by
 unfold nums
 exact count_one (i := i) hi (by rw [drop_bit hs (hs.bit hi)]; simp) (fun j hj => by rw [drop_bit hs (hs.bit hi)]; simp [hj]) (List.range 64) (List.mem_range.2 (hs.bit hi)) List.nodup_range

def ordStep (l : List Nat) (st : List Nat × Nat) : List Nat × Nat := match pickO l st.2 with
 | none => st
 | some i => (st.1 ++ [i], drop st.2 i)
def ordI (l : List Nat) : Nat → List Nat × Nat
 | 0 => ([], upTo l.length)
 | k + 1 => ordStep l (ordI l k)
theorem ordStep_some {l : List Nat} {st : List Nat × Nat} {i : Nat} (h : pickO l st.2 = some i) : ordStep l st = (st.1 ++ [i], drop st.2 i) := by unfold ordStep; rw [h]
theorem ordStep_none {l : List Nat} {st : List Nat × Nat} (h : pickO l st.2 = none) : ordStep l st = st := by unfold ordStep; rw [h]

theorem nums_upTo {n : Nat} (h : n ≤ 64) : nums (upTo n) = List.range n := by
 unfold nums
 have e : (64 : Nat) = n + (64 - n) := by omega
 rw [e, List.range_add, List.filter_append, List.filter_eq_self.2, List.filter_eq_nil_iff.2, List.append_nil]
 ·intro a ha
  obtain ⟨x, _, rfl⟩ := List.mem_map.1 ha
  simp [upTo_bit]
 ·intro a ha
  simpa [upTo_bit] using ha
structure OrdInv (l : List Nat) (st : List Nat × Nat) : Prop where
 sub : ∀ j, st.2.testBit j = true → j < l.length
 mem : ∀ j, j ∈ st.1 ↔ j < l.length ∧ st.2.testBit j = false
 nodup : st.1.Nodup
 len : st.1.length + (nums st.2).length = l.length
 /-- the row of each one that is done lies in those that were done ahead of it -/
 before : ∀ p i, st.1[p]? = some i → ∀ j, (rowAt l i).testBit j = true → j ∈ st.1.take p
theorem ordInv_zero {l : List Nat} (hn : l.length ≤ 64) : OrdInv l ([], upTo l.length) := by
 refine ⟨fun j hj => by simpa [upTo_bit] using hj, fun j => by simp [upTo_bit], by simp, ?_, fun p i h => by simp at h⟩
 show 0 + (nums (upTo l.length)).length = _
 rw [Nat.zero_add, nums_upTo hn, List.length_range]
theorem OrdInv.b64 {l : List Nat} (hn : l.length ≤ 64) {st : List Nat × Nat} (h : OrdInv l st) : B64 st.2 := B64.of_bits fun j hj => Nat.lt_of_lt_of_le (h.sub j hj) hn
theorem ordInv_step {l : List Nat} (hg : Good l) {st : List Nat × Nat} (h : OrdInv l st) : OrdInv l (ordStep l st) := by
 have hb := h.b64 hg.1
 cases hp : pickO l st.2 with
 | none => rw [ordStep_none hp]; exact h
 | some i =>
   rw [ordStep_some hp]
   obtain ⟨h1, h2⟩ := pickO_some hp hb
   have hi := hb.bit h1
   refine ⟨fun j hj => ?_, fun j => ?_, ?_, ?_, fun p x hx j hj => ?_⟩
   ·rw [drop_bit hb hi] at hj
    exact h.sub j (by simp at hj; exact hj.1)
   ·show j ∈ st.1 ++ [i] ↔ j < l.length ∧ (drop st.2 i).testBit j = false
    rw [List.mem_append, List.mem_singleton, h.mem j, drop_bit hb hi]
    by_cases hji : j = i
    ·subst hji
     simp [h.sub j h1]
    ·simp [hji]
   ·show (st.1 ++ [i]).Nodup
    rw [List.nodup_append]
    refine ⟨h.nodup, by simp, fun a ha b hb' => ?_⟩
    rw [List.mem_singleton] at hb'
    subst hb'
    intro e
    subst e
    have := ((h.mem a).1 ha).2
    rw [h1] at this
    cases this
   ·show (st.1 ++ [i]).length + (nums (drop st.2 i)).length = _
    have := drop_len hb h1
    have := h.len
    simp
    omega
   ·have hx' : (st.1 ++ [i])[p]? = some x := hx
    show j ∈ (st.1 ++ [i]).take p
    rcases Nat.lt_trichotomy p st.1.length with hlt | heq | hgt
    ·rw [List.getElem?_append_left hlt] at hx'
     rw [List.take_append_of_le_length (by omega)]
     exact h.before p x hx' j hj
    ·subst heq
     rw [List.getElem?_append_right (Nat.le_refl _)] at hx'
     simp at hx'
     subst hx'
     rw [List.take_append_of_le_length (Nat.le_refl _), List.take_length, h.mem j]
     refine ⟨hg.2 i j hj, ?_⟩
     cases hs : st.2.testBit j with
     | false => rfl
     | true =>
       have : (rowAt l i &&& st.2).testBit j = true := by rw [Nat.testBit_and, hj, hs]; rfl
       rw [h2] at this
       simp at this
    ·rw [List.getElem?_append_right (by omega)] at hx'
     have : 1 ≤ p - st.1.length := by omega
     rw [List.getElem?_eq_none (by simpa using this)] at hx'
     cases hx'
theorem ordI_inv {l : List Nat} (hg : Good l) (k : Nat) : OrdInv l (ordI l k) := by
 induction k with
 | zero => exact ordInv_zero hg.1
 | succ k ih => exact ordInv_step hg ih
theorem ordI_len {l : List Nat} (k : Nat) : (ordI l k).1.length = k ∨ pickO l (ordI l k).2 = none := by
 induction k with
 | zero => exact .inl rfl
 | succ k ih =>
   show (ordStep l (ordI l k)).1.length = k + 1 ∨ pickO l (ordStep l (ordI l k)).2 = none
   cases hp : pickO l (ordI l k).2 with
   | none => exact .inr (by rw [ordStep_none hp]; exact hp)
   | some i =>
     rcases ih with h | h
     ·exact .inl (by rw [ordStep_some hp]; simp [h])
     ·rw [hp] at h; cases h
def ordL (l : List Nat) : List Nat := (ordI l l.length).1
def ordR (l : List Nat) : Nat := (ordI l l.length).2
theorem ordL_inv {l : List Nat} (hg : Good l) : OrdInv l (ordL l, ordR l) := ordI_inv hg l.length
theorem ord_end {l : List Nat} (hg : Good l) : pickO l (ordR l) = none := by
 rcases ordI_len (l := l) l.length with h | h
 ·have hi := ordI_inv hg l.length
  have hz : (nums (ordI l l.length).2).length = 0 := by have := hi.len; omega
  have hz' : ordR l = 0 := by
   apply Classical.byContradiction
   intro h0
   exact nums_ne (hi.b64 hg.1) h0 (List.eq_nil_of_length_eq_zero hz)
  rw [hz']
  unfold pickO
  rw [nums_zero]
  rfl
 ·exact h
theorem ord_full {l : List Nat} (hg : Good l) : (ordL l).length = l.length ↔ ordR l = 0 := by
 have hi := ordL_inv hg
 have hb := hi.b64 hg.1
 have hl : (ordL l).length + (nums (ordR l)).length = l.length := hi.len
 constructor
 ·intro h
  apply Classical.byContradiction
  intro h0
  have h2 : (nums (ordR l)).length = 0 := by omega
  exact nums_ne hb h0 (List.eq_nil_of_length_eq_zero h2)
 ·intro h
  rw [h, nums_zero] at hl
  simpa using hl
theorem ord_len {l : List Nat} (hg : Good l) : (ordL l).length ≤ l.length := by
 have hl : (ordL l).length + (nums (ordR l)).length = l.length := (ordL_inv hg).len
 omega
end Go.Proofs.YtoandhhkmkgmaaaGreatDoor
namespace Go.Proofs.YtoandhhkmkgmaaaGreatDoor

theorem ord_mem {l : List Nat} (hg : Good l) (hr : ordR l = 0) (i : Nat) : i ∈ ordL l ↔ i < l.length := by
 have := (ordL_inv hg).mem i
 rw [show (ordL l, ordR l).1 = ordL l from rfl, show (ordL l, ordR l).2 = ordR l from rfl, hr] at this
 simpa using this
theorem ord_before {l : List Nat} (hg : Good l) {p i j : Nat} (h : (ordL l)[p]? = some i) (hj : (rowAt l i).testBit j = true) : j ∈ (ordL l).take p := (ordL_inv hg).before p i h j hj
end Go.Proofs.YtoandhhkmkgmaaaGreatDoor
namespace Go.Proofs.YtoandhhkmkgmaaaGreatDoor

end Go.Proofs.YtoandhhkmkgmaaaGreatDoor
namespace Go.Proofs.YtoandhhkmkgmaaaGreatDoor
open Go.RowKit

theorem elInt : ElT Tryz.prog 104 3 (.int .i64 0) 8 := ElT.mk' Tryz.underlying104 (by kernel_rfl) rfl
def nv (k : Nat) : Value := .int .i64 (k : Int)
def OwnPost (E : TypeId) (n : Nat) (xs : List Value) (w : World) (e : Ending) (w' : World) : Prop :=
 ∃ A c, e = .returned (.slice A n c) ∧ w'.ownsRow w.heap.size E 1 (.slice A n c) n xs ∧ Below w.heap.size w w'

theorem numbers_snoc (s k : Nat) : (List.range (k + 1)).filter (fun i => s.testBit i) = (List.range k).filter (fun i => s.testBit i) ++ if s.testBit k then [k] else [] := by
 rw [List.range_succ, List.filter_append]
 cases h : s.testBit k <;> simp [h]
theorem len_range (s k : Nat) : ((List.range k).filter fun i => s.testBit i).length ≤ k := Nat.le_trans (List.length_filter_le _ _) (by simp)

theorem rNumbers_any (s : Nat) (hs : B64 s) (w : World) :
 Calls Tryz.prog 59 #[.int .u64 s] w (OwnPost 3 (nums s).length ((nums s).map nv) w) := by
 have HS := Lib.hid hs
 clear hs
 go_enter Tryz.func59, Tryz.ntmps59
 go_wp2
 go_loopw [3, 4, 5] (fun v _ i wr => ∃ k : Nat, k ≤ 64 ∧ i = .int .i64 k ∧ ∃ A c n, v = .slice A n c ∧ wr.ownsRow w.heap.size 3 1 (.slice A n c) n (((List.range k).filter fun i => s.testBit i).map nv) ∧ Below w.heap.size w wr) (fun _ _ i _ => 64 - (intOf i).toNat)
 case atStart => exact ⟨0, by omega, rfl, none, 0, 0, rfl, World.ownsRow_nil _ _ _ _, Below.refl _ _⟩
 case round =>
  obtain ⟨k, hk, rfl, A, c, n, rfl, hown, hb⟩ := hrel
  have hn : n ≤ 64 := by
   have h1 := own_len hown
   have h2 := len_range s k
   simp at h1
   omega
  by_cases hlt : k < 64
  ·have HT := Lib.hid (numbers_snoc s k)
   cases hbit : s.testBit k with
   | false =>
     rw [hbit] at HT
     go_wp2_with (go_at_call 58; refine (in_nat _ HS.out _ _).mono ?_; rintro e w' ⟨rfl, rfl⟩)
     go_roundw
     case rel => exact ⟨k + 1, by omega, by go_num, A, c, n, rfl, by rw [HT.out]; simpa using hown, hb⟩
     case measure => simp [intOf]; omega
   | true =>
     rw [hbit] at HT
     have hbs := hb.size
     go_wp2_with (first | (go_at_call 58; refine (in_nat _ HS.out _ _).mono ?_; rintro e w' ⟨rfl, rfl⟩) | (at_builtin; refine wpList_push elInt wr _ _ w.heap.size A n c _ _ hown rfl hbs (by omega) (by omega) rfl rfl rfl rfl ?_; intro A' c' w1 hown1 hb1))
     go_roundw
     case rel => exact ⟨k + 1, by omega, by go_num, A', c', n + 1, by go_num, by rw [HT.out]; simpa [nv] using hown1, hb.trans hb1⟩
     case measure => simp [intOf]; omega
  ·obtain rfl : k = 64 := by omega
   have hl := own_len hown
   simp at hl
   have HL := Lib.hid hl
   clear hl
   go_wp2
   go_ret
   refine ⟨A, c, ret_slice (show n = (nums s).length from HL.out.symm), ?_, hb⟩
   rw [show (nums s).length = n from HL.out]
   exact hown

theorem list_any (s : Nat) (hs : B64 s) (w : World) (ht : Tab w) :
 Calls Tryz.prog 73 #[.int .u64 s] w (OwnPost 3 (nums s).length ((nums s).map nv) w) := by
 have HS := Lib.hid hs
 have HT := Lib.hid ht
 have hl := nums_len s
 have HD := Lib.hid (fun (j : Nat) (hj : j < (nums s).length) => dropS_ne hs hj)
 have HB := Lib.hid (fun (j : Nat) => dropS_b64 hs j)
 have HW := Lib.hid (fun (j : Nat) (hj : j < (nums s).length) => dropS_low hs hj)
 have HZ : Hid (dropS s (nums s).length = 0) := Lib.hid (by
  have := dropS_nums hs (nums s).length (Nat.le_refl _)
  simp at this
  exact Classical.byContradiction fun h => nums_ne (dropS_b64 hs _) h this)
 have HK := Lib.hid (fun (j : Nat) (hj : j < (nums s).length) => take_snoc (nums s) 0 j hj)
 clear hs ht
 obtain ⟨i0, hi, hz0, hz1, hz2⟩ := info_parts (show (Tryz.prog.info? 3).map (fun i => (i.zero, i.size, i.bytes)) = some (some (.int .i64 0), 1, 8) by kernel_rfl)
 go_enter Tryz.func73, Tryz.ntmps73
 go_wp2_with (first | (go_at_call 130; refine (count_any _ HS.out _).mono ?_; rintro e w' ⟨rfl, rfl⟩) | (at_make; refine wpList_make_own _ rfl _ _ 104 rfl w.heap.size 3 i0 (.int .i64 0) 1 Tryz.underlying104 hi hz0 hz1 _ _ _ (nums s).length rfl rfl (by omega) ?b2 ?b3 (Nat.le_refl _) ?_))
 case b2 => rw [hz2]; omega
 case b3 => unfold maxLen; omega
 intro w0 hown0 hg0
 go_wp2
 generalize hL : (nums s).length = L at *
 go_loopw [0, 3] (fun t v wr => ∃ j A c, j ≤ L ∧ t = .int .u64 (dropS s j : Nat) ∧ v = .slice A j c ∧ wr.ownsRow w.heap.size 3 1 (.slice A j c) j (((nums s).take j).map nv) ∧ Below w.heap.size w wr)
  (fun _ v _ => match v with | .slice _ j _ => L - j | _ => 0)
 case atStart => exact ⟨0, _, _, by omega, rfl, rfl, by simpa using hown0, (Below.refl _ _).grown hg0 (Nat.le_refl _) (fun k h => by cases h)⟩
 case round =>
  obtain ⟨j, A, c, hj, rfl, rfl, hown, hb⟩ := hrel
  have hbs := hb.size
  have hTab := HT.out.below hb
  have HTW := Lib.hid hTab
  clear hTab
  by_cases hlt : j < L
  ·have hz : (((dropS s j : Nat) : Int) != 0) = true := by have := HD.out j (by omega); simp; omega
   have hr := drop1_raw (dropS s j) (HB.out j) (HD.out j hlt)
   go_wp2_with (first | (go_at_call 131; refine (least_any _ (HB.out _) (HD.out _ hlt) _ HTW.out).mono ?_; rintro e w' ⟨rfl, rfl⟩) | (at_builtin; refine wpList_push elInt wr _ _ w.heap.size A j c _ _ hown rfl hbs (by omega) (by omega) rfl rfl rfl rfl ?_; intro A' c' w1 hown1 hb1))
   go_roundw
   case rel => exact ⟨j + 1, A', c', by omega, rfl, rfl, by rw [HK.out j hlt]; simpa [nv, HW.out j hlt] using hown1, hb.trans hb1⟩
   case measure => simp; omega
  ·obtain rfl : j = L := by omega
   have hz : (((dropS s j : Nat) : Int) != 0) = false := by rw [HZ.out]; rfl
   have ht : (nums s).take j = nums s := List.take_of_length_le (by omega)
   rw [ht] at hown
   clear ht
   go_wp2
   go_ret
   exact ⟨A, c, rfl, hown, hb⟩
end Go.Proofs.YtoandhhkmkgmaaaGreatDoor
namespace Go.Proofs.YtoandhhkmkgmaaaGreatDoor
open Go.RowKit

structure El2 (P : Program) (t e : TypeId) (bytes : Nat) : Prop where
 under : P.underlying t = some (.slice e)
 info : ∃ i z, P.info? e = some i ∧ i.zero = some z ∧ i.size = 2 ∧ i.bytes = bytes ∧ z.cells.size = 2
theorem El2.mk' {P : Program} {t e : TypeId} {bytes : Nat} (ht : P.underlying t = some (.slice e)) {z : Value} (h : (P.info? e).map (fun i => (i.zero, i.size, i.bytes)) = some (some z, 2, bytes)) (hz : z.cells.size = 2) : El2 P t e bytes := by
 cases hi : P.info? e with
 | none => rw [hi] at h; cases h
 | some i =>
   rw [hi] at h
   simp only [Option.map_some, Option.some.injEq, Prod.mk.injEq] at h
   exact ⟨ht, i, z, hi, h.1, h.2.1, h.2.2, hz⟩
theorem wpList_push2 {P : Program} {t e : TypeId} {bytes : Nat} (T : El2 P t e bytes) {ops : Array Oper} {rest : List Oper} {o : Oper} {a : Act} {Q : Exit → Act → World → Prop} (wr : World) (s x : Operand) (B : Nat) (A : Option Addr) (n c : Nat) (xs : List Value) (u v : Value)
 (hu : u.oneCell' = true) (hv : v.oneCell' = true) (hown : wr.ownsRow B e 2 (.slice A n c) n xs) (hB : B ≤ wr.heap.size) (hn : (n + 1) * bytes ≤ 140737488355328) (hn' : n + 1 ≤ 140737488355328)
 (hgd : o.guard = none) (ho : o.op = .call { callee := .builtin .append, args := #[s, x], argTypes := #[t, t] })
 (hs : a.eval s = .slice A n c) (hx : a.eval x = .slice (some ⟨wr.heap.size, 0, none⟩) 1 1)
 (h : ∀ g c' w', w'.ownsRow B e 2 (.slice (some ⟨g, 0, none⟩) (n + 1) c') (n + 1) (xs ++ [u, v]) → Below B wr w' → (wr.alloc (.cells #[u, v] e)).grownBy w' (Value.slice A n c).ownBlock → wpList P ops Q rest (a.put o.dst (.slice (some ⟨g, 0, none⟩) (n + 1) c')) w') :
 wpList P ops Q (o :: rest) a (wr.alloc (.cells #[u, v] e)) := by
 obtain ⟨ht, i, z, hi, hz, h1, hb, hzs⟩ := T
 have hB' : B ≤ (wr.alloc (.cells #[u, v] e)).heap.size := by simp; omega
 refine wpList_append_own_at _ hgd s x t ho B e i z 2 bytes ht hi hz h1 hb hzs (by decide) (.slice A n c) n xs hs (hown.alloc _) ⟨wr.heap.size, 0, none⟩ 1 1 [u, v] hx rfl ?_ (by intro y hy; simp at hy; rcases hy with rfl | rfl <;> assumption) (by unfold maxLen; omega) hn hB' ?_
 ·intro j y hj
  rw [Addr.add_lit, World.cell?_alloc_at _ _ _ _ rfl, Nat.zero_add]
  simpa using hj
 ·intro v' w' hown' hg hnil hor
  have hne : v' ≠ .slice none 0 0 := fun e => by have := (hnil.1 e).2; omega
  rcases hown'.2 with ⟨h', _⟩ | ⟨g, cap, cur, h', _⟩
  ·exact absurd h' hne
  ·subst h'
   exact h g cap w' hown' (((Below.refl B wr).alloc hB _).grown hg hB' (fun k hk => (hown.lt k hk).1)) hg
end Go.Proofs.YtoandhhkmkgmaaaGreatDoor
