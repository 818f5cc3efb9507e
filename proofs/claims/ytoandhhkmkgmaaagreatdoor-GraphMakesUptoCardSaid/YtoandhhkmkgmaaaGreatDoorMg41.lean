/- Contracts that the law's proof leans on, and plain lemmas to them, merged. No condition beyond each contract's own hypotheses. -/
import Derived.Test.YtoandhhkmkgmaaaGreatDoorMg5
import Derived.Test.YtoandhhkmkgmaaaGreatDoorMg24
import Derived.Test.YtoandhhkmkgmaaaGreatDoorMg0
import Derived.Test.YtoandhhkmkgmaaaGreatDoorMg9
import Derived.Deep.RegionHeld3
import Derived.Shelf.SlSortCmp.Insertion
import Derived.Test.YtoandhhkmkgmaaaGreatDoorMg4
import Derived.RegionTactic
import Derived.ChangeAlike
import Derived.Test.YtoandhhkmkgmaaaGreatDoorRows
import Derived.WalkKit
import Derived.WalkSpells
import Derived.WalkLawsBesides
import Derived.Outline
import Derived.BigQuiet
import Derived.Deep.QuietTactic
import Derived.Lib.Hide
import Derived.Test.YtoandhhkmkgmaaaGreatDoorMg35
namespace Go.Proofs.YtoandhhkmkgmaaaGreatDoor

section
variable {α : Type} {lt : α → α → Bool} {l : List α}
end
abbrev EdgeT := Int × Int
end Go.Proofs.YtoandhhkmkgmaaaGreatDoor
namespace Go.Proofs.YtoandhhkmkgmaaaGreatDoor
open Go.RowKit

def eV (E : List (Int × Int)) : List Value := E.flatMap fun e => [.int .i64 e.1, .int .i64 e.2]
theorem eV_len : ∀ E : List (Int × Int), (eV E).length = 2 * E.length
 | [] => rfl
 | e :: E => by
   have := eV_len E
   unfold eV at *
   rw [List.flatMap_cons, List.length_append, this, List.length_cons]
   simp
   omega
theorem eV_at : ∀ {E : List (Int × Int)} {k : Nat} {e : Int × Int}, E[k]? = some e → (eV E)[2 * k]? = some (.int .i64 e.1) ∧ (eV E)[2 * k + 1]? = some (.int .i64 e.2)
 | [], k, e, h => by simp at h
 | x :: E, 0, e, h => by
   simp at h
   subst h
   exact ⟨rfl, rfl⟩
 | x :: E, k + 1, e, h => by
   have ih := eV_at (E := E) (k := k) (by simpa using h)
   unfold eV at *
   rw [List.flatMap_cons, show 2 * (k + 1) = 2 * k + 1 + 1 by omega]
   exact ⟨ih.1, ih.2⟩
theorem eV_snoc (E : List (Int × Int)) (e : Int × Int) : eV (E ++ [e]) = eV E ++ [.int .i64 e.1, .int .i64 e.2] := by unfold eV; rw [List.flatMap_append]; rfl
theorem Rd.edge {w : World} {A : Option Addr} {E : List (Int × Int)} (h : Rd w A (eV E)) {k : Nat} {e : Int × Int} (hk : E[k]? = some e) :
 ∃ b off, A = some ⟨b, off, none⟩ ∧ w.cell? ⟨b, off + k * 2, none⟩ = some (.int .i64 e.1) ∧ w.cell? ⟨b, off + k * 2 + 1, none⟩ = some (.int .i64 e.2) := by
 have hl := (List.getElem?_eq_some_iff.1 hk).1
 obtain ⟨b, off, rfl, _, hc⟩ := h (by rw [eV_len]; omega)
 obtain ⟨h1, h2⟩ := eV_at hk
 rw [Nat.mul_comm 2 k] at h1 h2
 exact ⟨b, off, rfl, hc _ _ h1, by rw [Nat.add_assoc]; exact hc _ _ h2⟩
theorem cell_keep {w w' : World} {B o : Nat} {v : Value} (h : w.cell? ⟨B, o, none⟩ = some v) (hb : Below w.heap.size w w') : w'.cell? ⟨B, o, none⟩ = some v := (hb.cell (p := ⟨B, o, none⟩) (lt_of_cell' h)).trans h
end Go.Proofs.YtoandhhkmkgmaaaGreatDoor
namespace Go.Proofs.YtoandhhkmkgmaaaGreatDoor
open Go.RowKit

end Go.Proofs.YtoandhhkmkgmaaaGreatDoor
namespace Go.Proofs.YtoandhhkmkgmaaaGreatDoor
open Go.RowKit

end Go.Proofs.YtoandhhkmkgmaaaGreatDoor
namespace Go.Proofs.YtoandhhkmkgmaaaGreatDoor
open Go.RowKit Go.Sort Go.Lib

end Go.Proofs.YtoandhhkmkgmaaaGreatDoor
namespace Go.Proofs.YtoandhhkmkgmaaaGreatDoor
open Go.RowKit

def uv (s : Nat) : Value := .int .u64 (s : Int)
theorem elU64 : ElT Tryz.prog 50 41 (.int .u64 0) 8 := ElT.mk' Tryz.underlying50 (by kernel_rfl) rfl
theorem Rd.set {w : World} {A : Option Addr} {l : List Nat} (h : Rd w A (l.map uv)) {k : Nat} (hk : k < l.length) :
 ∃ b off, A = some ⟨b, off, none⟩ ∧ w.cell? ⟨b, off + k, none⟩ = some (.int .u64 (rowAt l k : Nat)) := by
 obtain ⟨b, off, rfl, hc⟩ := h.at_ (k := k) (by simpa using hk)
 refine ⟨b, off, rfl, ?_⟩
 rw [hc]
 unfold rowAt
 simp [uv, hk]
end Go.Proofs.YtoandhhkmkgmaaaGreatDoor
namespace Go.Proofs.YtoandhhkmkgmaaaGreatDoor
open Go.RowKit

end Go.Proofs.YtoandhhkmkgmaaaGreatDoor
namespace Go.Proofs.YtoandhhkmkgmaaaGreatDoor
open Go.RowKit

end Go.Proofs.YtoandhhkmkgmaaaGreatDoor
namespace Go.Proofs.YtoandhhkmkgmaaaGreatDoor
open Go.RowKit

end Go.Proofs.YtoandhhkmkgmaaaGreatDoor
namespace Go.Proofs.YtoandhhkmkgmaaaGreatDoor
open Go.RowKit

end Go.Proofs.YtoandhhkmkgmaaaGreatDoor
namespace Go.Proofs.YtoandhhkmkgmaaaGreatDoor
open Go.RowKit

end Go.Proofs.YtoandhhkmkgmaaaGreatDoor
namespace Go.Proofs.YtoandhhkmkgmaaaGreatDoor
open Go.RowKit

end Go.Proofs.YtoandhhkmkgmaaaGreatDoor
namespace Go.Proofs.YtoandhhkmkgmaaaGreatDoor
open Go.RowKit

def gv (A1 : Option Addr) (n c1 : Nat) (A2 : Option Addr) (k c2 : Nat) (p m : Nat) : Value := .agg #[.slice A1 n c1, .slice A2 k c2, .int .u64 (p : Int), .int .u64 (m : Int)]
theorem box_four (w : World) (x1 x2 x3 x4 : Value) (t : TypeId) :
 (w.alloc (.cells #[x1, x2, x3, x4] t)).cell? ⟨w.heap.size, 0, none⟩ = some x1 ∧ (w.alloc (.cells #[x1, x2, x3, x4] t)).cell? ⟨w.heap.size, 1, none⟩ = some x2 ∧
 (w.alloc (.cells #[x1, x2, x3, x4] t)).cell? ⟨w.heap.size, 2, none⟩ = some x3 ∧ (w.alloc (.cells #[x1, x2, x3, x4] t)).cell? ⟨w.heap.size, 3, none⟩ = some x4 ∧ Below w.heap.size w (w.alloc (.cells #[x1, x2, x3, x4] t)) := by
 refine ⟨?_, ?_, ?_, ?_, below_new (Below.refl _ _) _⟩ <;> (rw [World.cell?_alloc_at _ _ _ _ rfl]; rfl)
structure GrIn (A1 : Option Addr) (n : Nat) (A2 : Option Addr) (k : Nat) (N : List (List UInt8)) (E : List EdgeT) (p m : Nat) (w : World) : Prop where
 names : Rd w A1 (N.map sv)
 edges : Rd w A2 (eV E)
 nlen : N.length = n
 elen : E.length = k
 nb : n ≤ 9223372036854775807
 eb : k ≤ 9223372036854775807
 strs : StrsOk N
 p64 : B64 p
 m64 : B64 m
structure GrBox (B : Nat) (v1 v2 v3 v4 : Value) (w : World) : Prop where
 c1 : w.cell? ⟨B, 0, none⟩ = some v1
 c2 : w.cell? ⟨B, 1, none⟩ = some v2
 c3 : w.cell? ⟨B, 2, none⟩ = some v3
 c4 : w.cell? ⟨B, 3, none⟩ = some v4
theorem GrBox.below {B : Nat} {v1 v2 v3 v4 : Value} {w w' : World} (h : GrBox B v1 v2 v3 v4 w) (hb : Below w.heap.size w w') : GrBox B v1 v2 v3 v4 w' :=
 ⟨cell_keep h.c1 hb, cell_keep h.c2 hb, cell_keep h.c3 hb, cell_keep h.c4 hb⟩
section
variable {A1 A2 : Option Addr} {n k c1 c2 : Nat} {N : List (List UInt8)} {E : List EdgeT} {p m : Nat} (w : World) (hG : GrIn A1 n A2 k N E p m w)
include hG
end
end Go.Proofs.YtoandhhkmkgmaaaGreatDoor
namespace Go.Proofs.YtoandhhkmkgmaaaGreatDoor
open Go.RowKit

section
variable {A1 A2 : Option Addr} {n k c1 c2 : Nat} {N : List (List UInt8)} {E : List EdgeT} {p m : Nat} (w : World) (hG : GrIn A1 n A2 k N E p m w)
include hG
end
end Go.Proofs.YtoandhhkmkgmaaaGreatDoor
namespace Go.Proofs.YtoandhhkmkgmaaaGreatDoor
open Go.RowKit

section
variable {A1 A2 : Option Addr} {n k c1 c2 : Nat} {N : List (List UInt8)} {E : List EdgeT} {p m : Nat} (w : World) (hG : GrIn A1 n A2 k N E p m w)
include hG
end
end Go.Proofs.YtoandhhkmkgmaaaGreatDoor
namespace Go.Proofs.YtoandhhkmkgmaaaGreatDoor

def edgesAt (r : List Nat) (i : Nat) : List EdgeT := (nums (rowAt r i)).map fun k : Nat => ((i : Int), (k : Int))
def edgesOf (r : List Nat) : List EdgeT := (List.range r.length).flatMap (edgesAt r)
theorem addN_bit' (s i j : Nat) : (addN s i).testBit j = (s.testBit j || decide (j = i)) := by
 rw [show (addN s i).testBit j = (s.testBit j || decide (i = j)) from or_bit s i j]
 congr 1
 rw [decide_eq_decide]
 exact eq_comm
theorem fold_bit (p : Nat → Bool) : ∀ (m j : Nat), ((List.range m).foldl (fun o i => if p i then addN o i else o) 0).testBit j = (decide (j < m) && p j)
 | 0, j => by simp
 | m + 1, j => by
   rw [List.range_succ, List.foldl_append]
   simp only [List.foldl_cons, List.foldl_nil]
   have ih := fold_bit p m j
   by_cases hp : p m = true
   ·rw [if_pos hp, addN_bit', ih]
    by_cases hj : j = m
    ·subst hj; simp [hp]
    ·rw [decide_eq_false hj, Bool.or_false]
     congr 1
     rw [decide_eq_decide]; omega
   ·rw [if_neg hp, ih]
    by_cases hj : j = m
    ·subst hj; simp at hp; simp [hp]
    ·congr 1
     rw [decide_eq_decide]; omega
def setP (m : Nat) (p : Nat → Bool) : Nat := (List.range m).foldl (fun o i => if p i then addN o i else o) 0
theorem setP_bit (m : Nat) (p : Nat → Bool) (j : Nat) : (setP m p).testBit j = (decide (j < m) && p j) := fold_bit p m j
theorem setP_succ (m : Nat) (p : Nat → Bool) : setP (m + 1) p = if p m then addN (setP m p) m else setP m p := by
 unfold setP
 rw [List.range_succ, List.foldl_append]
 rfl
theorem setP_b64 {m : Nat} (p : Nat → Bool) (hm : m ≤ 64) : B64 (setP m p) := B64.of_bits fun j hj => by
 rw [setP_bit] at hj
 simp at hj
 omega
end Go.Proofs.YtoandhhkmkgmaaaGreatDoor
namespace Go.Proofs.YtoandhhkmkgmaaaGreatDoor
open Go.RowKit

def sliceLen : Value → Nat
 | .slice _ n _ => n
 | _ => 0
def haveO (n s : Nat) : Nat := minus (upTo n) s
theorem haveO_bit {n s : Nat} (hn : n ≤ 64) (hs : B64 s) (j : Nat) : (haveO n s).testBit j = (decide (j < n) && !s.testBit j) := by
 unfold haveO
 rw [minus_bit (upTo_b64 hn) hs, upTo_bit]
theorem haveO_b64 {n s : Nat} (hn : n ≤ 64) : B64 (haveO n s) := minus_b64 (upTo_b64 hn)
theorem haveO_drop {n s i : Nat} (hn : n ≤ 64) (hs : B64 s) (hi : i < n) : addN (haveO n s) i = haveO n (drop s i) := by
 apply set_ext
 intro j
 unfold addN
 rw [or_bit, haveO_bit hn hs, haveO_bit hn (drop_b64 hs), drop_bit hs (by omega)]
 by_cases h : i = j
 ·subst h; simp [hi]
 ·have h' : j ≠ i := fun e => h e.symm
  simp [h, h']
theorem haveO_zero {n s : Nat} (hn : n ≤ 64) (hs : B64 s) {t : Nat} (ht : B64 t) (hin : ∀ j, t.testBit j = true → j < n) : minus t (haveO n s) = 0 ↔ t &&& s = 0 := by
 constructor
 ·intro h
  apply set_ext
  intro j
  have := minus_bit ht (haveO_b64 (s := s) hn) j
  rw [h, haveO_bit hn hs] at this
  rw [Nat.testBit_and]
  cases hj : t.testBit j with
  | false => simp
  | true =>
    rw [hj] at this
    simp [hin j hj] at this
    simp [this]
 ·intro h
  apply set_ext
  intro j
  rw [minus_bit ht (haveO_b64 hn), haveO_bit hn hs]
  cases hj : t.testBit j with
  | false => simp
  | true =>
    have h2 : (t &&& s).testBit j = false := by rw [h]; simp
    rw [Nat.testBit_and, hj] at h2
    simp at h2
    simp [hin j hj, h2]
theorem haveO_start (n : Nat) (hn : n ≤ 64) : haveO n (upTo n) = 0 := by
 apply set_ext
 intro j
 rw [haveO_bit hn (upTo_b64 hn), upTo_bit]
 simp
def OrdOwn (l : List Nat) (w : World) (e : Ending) (w' : World) : Prop :=
 ∃ A c, e = .returned (.slice A (ordL l).length c) ∧ w'.ownsRow w.heap.size 3 1 (.slice A (ordL l).length c) (ordL l).length ((ordL l).map nv) ∧ Below w.heap.size w w'
set_option maxHeartbeats 1000000 in
theorem rOrdered_any {A : Option Addr} {n c : Nat} (l : List Nat) (w : World) (h1 : Rd w A (l.map uv)) (hl : l.length = n) (hg : Good l) :
 Calls Tryz.prog 154 #[.slice A n c] w (OrdOwn l w) := by
 have hn : n ≤ 64 := by have := hg.1; omega
 have H1 := Lib.hid h1
 have HL := Lib.hid hl
 have HG := Lib.hid hg
 have HST0 : Hid (0 = haveO n (ordI l 0).2) := Lib.hid (by rw [← hl]; exact (haveO_start _ (by omega)).symm)
 clear h1 hl hg
 go_enter Tryz.func154, Tryz.ntmps154
 go_wp2_with fail
 go_loopw [3, 4, 5, 8, 12] (fun v s _ x _ wr => ∃ (k m : Nat) (A2 : Option Addr) (c2 : Nat), k ≤ n ∧ m ≤ n ∧ x = .int .i64 (k : Int) ∧ s = .int .u64 (haveO n (ordI l k).2 : Nat) ∧ v = .slice A2 m c2 ∧ Hid ((ordI l k).1.length = m) ∧ Hid (wr.ownsRow w.heap.size 3 1 (.slice A2 m c2) m ((ordI l k).1.map nv)) ∧ Hid (Below w.heap.size w wr)) (fun _ _ _ x _ _ => 65 - (intOf x).toNat)
 case atStart => exact ⟨0, 0, none, 0, by omega, by omega, rfl, by rw [← HST0.out]; rfl, rfl, Lib.hid rfl, Lib.hid (World.ownsRow_nil _ _ _ _), Lib.hid (Below.refl _ _)⟩
 case round =>
  obtain ⟨k, m, A2, c2, hk, hm, rfl, rfl, rfl, hlen, hown, hbw⟩ := hrel
  by_cases hkn : k < n
  ·have HI := Lib.hid (ordI_inv HG.out k)
   have HSB := Lib.hid (HI.out.b64 HG.out.1)
   have HIN : Hid (∀ j, (ordI l k).2.testBit j = true → j < l.length) := Lib.hid HI.out.sub
   have HSTEP : Hid (∀ i, pickO l (ordI l k).2 = some i → ordI l (k + 1) = ((ordI l k).1 ++ [i], drop (ordI l k).2 i)) := Lib.hid (fun i h => ordStep_some h)
   have HSTOP : Hid (pickO l (ordI l k).2 = none → ordI l (k + 1) = ordI l k) := Lib.hid (fun h => ordStep_none h)
   have HLI : Hid ((ordI l k).1.length + (nums (ordI l k).2).length = l.length) := Lib.hid HI.out.len
   have HR := Lib.hid (H1.out.below hbw.out)
   have hsz := hbw.out.size
   have HETA : Hid (ordI l k = ((ordI l k).1, (ordI l k).2)) := Lib.hid rfl
   generalize hD : (ordI l k).1 = done at *
   generalize hS : (ordI l k).2 = S at *
   clear hD hS HI
   have HHB := Lib.hid (haveO_b64 (n := n) (s := S) hn)
   go_wp2_with fail
   go_loop [3, 4, 5, 12] (fun v s _ y => ∃ i : Nat, i ≤ n ∧ v = .slice A2 m c2 ∧ s = .int .u64 (haveO n S : Nat) ∧ y = .int .i64 (i : Int) ∧ Hid (∀ j : Nat, j < i → S.testBit j = true → rowAt l j &&& S ≠ 0)) (fun _ _ _ y => 65 - (intOf y).toNat)
   case atStart => exact ⟨0, by omega, rfl, rfl, rfl, Lib.hid (fun j hj => absurd hj (by omega))⟩
   case round =>
    obtain ⟨i, hi, rfl, rfl, rfl, hno⟩ := hrel
    by_cases hin : i < n
    ·obtain ⟨b2, o2, rfl, x2⟩ := HR.out.set (k := i) (by rw [HL.out]; exact hin)
     have hi64 : i < 64 := by omega
     have HBIT := Lib.hid (haveO_bit hn HSB.out i)
     have HNX : Hid ((S.testBit i = true → rowAt l i &&& S ≠ 0) → ∀ j : Nat, j < i + 1 → S.testBit j = true → rowAt l j &&& S ≠ 0) := Lib.hid (fun h j hj hjs => by
      rcases Nat.lt_or_ge j i with h' | h'
      ·exact hno.out j h' hjs
      ·obtain rfl : j = i := by omega
       exact h hjs)
     cases hbit : S.testBit i with
     | true =>
       have hhave : (haveO n S).testBit i = false := by rw [HBIT.out, hbit]; simp
       have e1 := minus_raw (rowAt l i) (haveO n S) (HG.out.b64 i) HHB.out
       by_cases hz : rowAt l i &&& S = 0
       ·rw [(haveO_zero hn HSB.out (HG.out.b64 i) (fun j hj => by rw [← HL.out]; exact HG.out.2 i j hj)).2 hz] at e1
        have e1' : bits .andNot .u64 ((rowAt l i : Nat) : Int) ((haveO n S : Nat) : Int) = 0 := e1
        have HP := Lib.hid (HSTEP.out i (pickO_first HSB.out hbit hz (fun j hj hjs => hno.out j hj hjs)))
        have e2 := or_raw (haveO n S) i HHB.out hi64
        rw [haveO_drop hn HSB.out hin] at e2
        have hmn : m + 1 ≤ n := by
         have h3 := drop_len HSB.out hbit
         have h4 := HLI.out
         have h5 := hlen.out
         have h6 := HL.out
         omega
        clear e1 hz hbit
        go_wp2_with (first | (go_at_call 58; refine (in_nat _ HHB.out _ _).mono ?_; rintro e w' ⟨rfl, rfl⟩) | (at_builtin; refine wpList_push elInt wr _ _ w.heap.size A2 m c2 _ (nv i) hown.out rfl hsz (by omega) (by omega) rfl rfl rfl rfl ?_; intro A' c' w3 hown3 hb3))
        go_roundw
        case rel => exact ⟨k + 1, m + 1, A', c', by omega, hmn, by go_num, by rw [HP.out], rfl, Lib.hid (by rw [HP.out, List.length_append, hlen.out]; rfl), Lib.hid (by rw [HP.out, List.map_append]; exact hown3), Lib.hid (hbw.out.trans hb3)⟩
        case measure => simp [intOf]; omega
       ·have hz2 : ¬ minus (rowAt l i) (haveO n S) = 0 := fun h => hz ((haveO_zero hn HSB.out (HG.out.b64 i) (fun j hj => by rw [← HL.out]; exact HG.out.2 i j hj)).1 h)
        have hz' : (((minus (rowAt l i) (haveO n S) : Nat) : Int) == 0) = false := by simp; omega
        have HN2 := Lib.hid (HNX.out (fun _ => hz))
        clear hz hz2 hbit
        go_wp2_with (go_at_call 58; refine (in_nat _ HHB.out _ _).mono ?_; rintro e w' ⟨rfl, rfl⟩)
        go_round
        case rel => exact ⟨i + 1, by omega, rfl, rfl, by go_num, HN2⟩
        case measure => simp [intOf]; omega
     | false =>
       have hhave : (haveO n S).testBit i = true := by rw [HBIT.out, hbit]; simp [hin]
       have HN2 := Lib.hid (HNX.out (fun h => by rw [hbit] at h; cases h))
       clear hbit
       go_wp2_with (go_at_call 58; refine (in_nat _ HHB.out _ _).mono ?_; rintro e w' ⟨rfl, rfl⟩)
       go_round
       case rel => exact ⟨i + 1, by omega, rfl, rfl, by go_num, HN2⟩
       case measure => simp [intOf]; omega
    ·have HP := Lib.hid ((HSTOP.out ((pickO_none HSB.out).2 (fun j hj => hno.out j (by have := HIN.out j hj; rw [HL.out] at this; omega) hj))).trans HETA.out)
     go_wp2
     go_roundw
     case rel => exact ⟨k + 1, m, A2, c2, by omega, hm, by go_num, by rw [HP.out], rfl, Lib.hid (by rw [HP.out]; exact hlen.out), Lib.hid (by rw [HP.out]; exact hown.out), hbw⟩
     case measure => simp [intOf]; omega
  ·obtain rfl : k = n := by omega
   have hf : (ordI l k) = (ordL l, ordR l) := by unfold ordL ordR; rw [HL.out]
   have HF := Lib.hid hf
   clear hf
   go_wp2
   go_ret
   have h2 := hlen.out
   have h3 := hown.out
   rw [HF.out] at h2 h3
   subst h2
   exact ⟨A2, c2, rfl, h3, hbw.out⟩
end Go.Proofs.YtoandhhkmkgmaaaGreatDoor
namespace Go.Proofs.YtoandhhkmkgmaaaGreatDoor
open Go.RowKit

end Go.Proofs.YtoandhhkmkgmaaaGreatDoor
