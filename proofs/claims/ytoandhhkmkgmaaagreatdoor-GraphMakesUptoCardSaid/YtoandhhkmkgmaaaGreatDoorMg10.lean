/- Contracts that the law's proof leans on, and plain lemmas to them, merged. No condition beyond each contract's own hypotheses. -/
import Derived.Test.YtoandhhkmkgmaaaGreatDoorMg0
import Derived.Lib.Replace
import Derived.Lib.SlTrimSet
import Derived.Test.YtoandhhkmkgmaaaGreatDoorShelf
import Derived.BigRegion
import Derived.Deep.Cut
import Derived.Deep.RegionHeld3
import Derived.Lib.Hide
import Derived.Lib.Walk
import Derived.WalkKit
import Derived.Outline
import Derived.Test.YtoandhhkmkgmaaaGreatDoorMg4
import Derived.Maps.AppendAt
import Derived.OneCell
import Derived.Lib.IndexMore
import Derived.Lib.IndexLaws
import Derived.Test.YtoandhhkmkgmaaaGreatDoorMg9
import Derived.BigQuiet
import Derived.Deep.QuietTactic
import Derived.Deep.RegionWith
namespace Go.Proofs.YtoandhhkmkgmaaaGreatDoor

def blankB (c : UInt8) : Bool := c == 32 || c == 9
def trimLL (s : List UInt8) : List UInt8 := s.dropWhile blankB
def trimRL (s : List UInt8) : List UInt8 := (s.reverse.dropWhile blankB).reverse
def trimBL (s : List UInt8) : List UInt8 := trimRL (trimLL s)
theorem blanks_eq (c : UInt8) : ([32, 9] : List UInt8).contains c = blankB c := by
 rw [Bool.eq_iff_iff]
 simp [blankB]
theorem trimLeft_eq (s : List UInt8) : Lib.trimLeftS s [32, 9] = trimLL s := by
 unfold Lib.trimLeftS trimLL
 congr 1
 funext c
 exact blanks_eq c
theorem trimRight_eq (s : List UInt8) : Lib.trimRightS s [32, 9] = trimRL s := by
 unfold Lib.trimRightS trimRL
 congr 3
 funext c
 exact blanks_eq c
end Go.Proofs.YtoandhhkmkgmaaaGreatDoor
namespace Go.Proofs.YtoandhhkmkgmaaaGreatDoor
open Go.RowKit

structure StrIsL (b : ByteArray) (s : List UInt8) : Prop where
 data : b.data.toList = s
 size : b.size = s.length
theorem strIsL (s : List UInt8) : StrIsL ⟨s.toArray⟩ s := ⟨rfl, rfl⟩
theorem StrIsL.at_ {b : ByteArray} {s : List UInt8} (h : StrIsL b s) {k : Nat} (hk : k < b.size) : s[k]? = some b[k] := by
 rw [← h.data]
 have h1 : k < b.data.size := hk
 rw [Array.getElem?_toList, Array.getElem?_eq_getElem h1]
 rfl
theorem neK {c n : UInt8} (h : c ≠ n) : (((c.toNat : Nat) : Int) != ((n.toNat : Nat) : Int)) = true := by
 have : c.toNat ≠ n.toNat := fun e => h (UInt8.toNat_inj.1 e)
 simp
 omega
theorem eqK {c n : UInt8} (h : c ≠ n) : (((c.toNat : Nat) : Int) == ((n.toNat : Nat) : Int)) = false := by
 have : c.toNat ≠ n.toNat := fun e => h (UInt8.toNat_inj.1 e)
 simp
 omega
theorem measL {q m : Nat} (h : q < m) : m - (intOf (.int .i64 ((q : Int) + 1))).toNat < m - (intOf (.int .i64 (q : Int))).toNat := by
 simp only [intOf]
 omega
theorem take_snocL {α : Type} {s : List α} {i : Nat} {c : α} (h : s[i]? = some c) : s.take (i + 1) = s.take i ++ [c] := by rw [List.take_add_one, h]; rfl
theorem cat_bytesL (x y : List UInt8) : (⟨x.toArray⟩ : ByteArray) ++ ⟨y.toArray⟩ = ⟨(x ++ y).toArray⟩ := by
 apply ByteArray.ext
 simp
theorem ext_one {b : ByteArray} {s : List UInt8} (h : StrIsL b s) {i : Nat} {c : UInt8} (hc : s[i]? = some c) : b.extract i (i + 1) = ⟨#[c]⟩ := by
 have h1 := Lib.extract_data b i (i + 1)
 rw [h.data] at h1
 have h2 : (s.drop i).take (i + 1 - i) = [c] := by
  obtain ⟨hi, hx⟩ := List.getElem?_eq_some_iff.1 hc
  rw [List.drop_eq_getElem_cons hi, hx, show i + 1 - i = 1 by omega]
  rfl
 rw [h2] at h1
 calc b.extract i (i + 1) = ⟨(b.extract i (i + 1)).data.toList.toArray⟩ := rfl
  _ = _ := by rw [h1]
set_option maxRecDepth 100000 in
theorem rBlank_any (c : UInt8) (w : World) : Calls Tryz.prog 153 #[.int .u8 (c.toNat : Int)] w fun e w' => e = .returned (.bool (blankB c)) ∧ w = w' := by
 by_cases h32 : c = 32
 ·subst h32
  go_enter Tryz.func153, Tryz.ntmps153
  go_wp2_with fail
  go_ret
  exact ⟨rfl, rfl⟩
 ·have k32 : ((c.toNat : Int) == 32) = false := eqK h32
  by_cases h9 : c = 9
  ·subst h9
   go_enter Tryz.func153, Tryz.ntmps153
   go_wp2_with fail
   go_ret
   exact ⟨rfl, rfl⟩
  ·have k9 : ((c.toNat : Int) == 9) = false := eqK h9
   have HB : Hid (blankB c = false) := Lib.hid (by unfold blankB; simp [h32, h9])
   clear h32 h9
   go_enter Tryz.func153, Tryz.ntmps153
   go_wp2_with fail
   go_ret
   exact ⟨by rw [HB.out]; rfl, rfl⟩
theorem rBlank_is (c : UInt8) (w : World) {v : Bool} (h : blankB c = v) : Calls Tryz.prog 153 #[.int .u8 (c.toNat : Int)] w fun e w' => e = .returned (.bool v) ∧ w = w' := by
 subst h
 exact rBlank_any c w
end Go.Proofs.YtoandhhkmkgmaaaGreatDoor
namespace Go.Proofs.YtoandhhkmkgmaaaGreatDoor
open Go.RowKit

theorem below_newL {a w w' : World} (h : Below a.heap.size a w) (k : Below w.heap.size w w') : Below a.heap.size a w' := h.trans (k.mono h.size)
theorem blanks_ascii : ∀ (j : Nat) (b : UInt8), (⟨#[32, 9]⟩ : ByteArray).data.toList[j]? = some b → b.toNat < 128 := by
 intro j b h
 match j, h with
 | 0, h => simp at h; subst h; decide
 | 1, h => simp at h; subst h; decide
theorem trimRL_cons (c : UInt8) (t : List UInt8) : trimRL (c :: t) = if (trimRL t).isEmpty then (if blankB c then [] else [c]) else c :: trimRL t := by
 unfold trimRL
 rw [List.reverse_cons, List.dropWhile_append, List.isEmpty_reverse]
 split
 ·cases h : blankB c <;> simp [List.dropWhile, h]
 ·simp
theorem trim_comm : ∀ s : List UInt8, trimLL (trimRL s) = trimRL (trimLL s)
 | [] => rfl
 | c :: t => by
   have ih := trim_comm t
   have hl : trimLL (c :: t) = if blankB c then trimLL t else c :: t := by unfold trimLL; rw [List.dropWhile_cons]
   rw [trimRL_cons, hl]
   cases hb : blankB c with
   | true =>
     simp only [if_true]
     rw [← ih]
     cases he : (trimRL t).isEmpty with
     | true =>
       rw [List.isEmpty_iff.1 he]
       rfl
     | false =>
       simp only [Bool.false_eq_true, if_false]
       unfold trimLL
       rw [List.dropWhile_cons, hb]
       rfl
   | false =>
     simp only [Bool.false_eq_true, if_false]
     rw [trimRL_cons, hb]
     cases he : (trimRL t).isEmpty with
     | true =>
       simp only [if_true, Bool.false_eq_true, if_false]
       unfold trimLL
       rw [List.dropWhile_cons, hb]
       rfl
     | false =>
       simp only [Bool.false_eq_true, if_false]
       unfold trimLL
       rw [List.dropWhile_cons, hb]
       rfl
theorem sTrim_any (s : List UInt8) (hl : s.length ≤ 9223372036854775807) (w : World) : Calls Tryz.prog 140 #[.string ⟨s.toArray⟩, .string ⟨#[32, 9]⟩] w fun e w' => e = .returned (.string ⟨(trimBL s).toArray⟩) ∧ Below w.heap.size w w' := by
 have h := Any.strings_Trim_laid Tryz.lays160 (by kernel_rfl) ⟨s.toArray⟩ ⟨#[32, 9]⟩ w hl (by decide) blanks_ascii
 rw [show (⟨s.toArray⟩ : ByteArray).data.toList = s from rfl, show (⟨#[32, 9]⟩ : ByteArray).data.toList = [32, 9] from rfl] at h
 have e : Lib.trimS s [32, 9] = trimBL s := by
  unfold Lib.trimS trimBL
  rw [trimRight_eq, trimLeft_eq, trim_comm]
 rw [e] at h
 exact h
end Go.Proofs.YtoandhhkmkgmaaaGreatDoor
namespace Go.Proofs.YtoandhhkmkgmaaaGreatDoor
open Go.RowKit

theorem ext_takeL {b : ByteArray} {s : List UInt8} (h : StrIsL b s) (i : Nat) : b.extract 0 i = ⟨(s.take i).toArray⟩ := by
 have h1 := Lib.extract_data b 0 i
 rw [h.data] at h1
 simp only [List.drop_zero, Nat.sub_zero] at h1
 calc b.extract 0 i = ⟨(b.extract 0 i).data.toList.toArray⟩ := rfl
  _ = _ := by rw [h1]
theorem ext_dropL {b : ByteArray} {s : List UInt8} (h : StrIsL b s) (i : Nat) : b.extract i b.size = ⟨(s.drop i).toArray⟩ := by
 have h1 := Lib.extract_data b i b.size
 rw [h.data, h.size] at h1
 rw [List.take_of_length_le (by rw [List.length_drop]; omega)] at h1
 rw [← h.size] at h1
 calc b.extract i b.size = ⟨(b.extract i b.size).data.toList.toArray⟩ := rfl
  _ = _ := by rw [h1]
theorem trimLL_cons (c : UInt8) (t : List UInt8) : trimLL (c :: t) = if blankB c then trimLL t else c :: t := by unfold trimLL; rw [List.dropWhile_cons]
theorem trimRL_snoc (u : List UInt8) (c : UInt8) : trimRL (u ++ [c]) = if blankB c then trimRL u else u ++ [c] := by
 unfold trimRL
 rw [List.reverse_append, List.reverse_singleton, List.singleton_append, List.dropWhile_cons]
 split
 ·rfl
 ·simp
theorem ext_tail (a : UInt8) (t : List UInt8) : (⟨(a :: t).toArray⟩ : ByteArray).extract 1 (t.length + 1) = ⟨t.toArray⟩ := by
 have h := ext_dropL (strIsL (a :: t)) 1
 exact h
theorem snoc_of {s : List UInt8} (h : s ≠ []) : ∃ u c, s = u ++ [c] := ⟨_, _, (List.dropLast_concat_getLast h).symm⟩
theorem last_at {b : ByteArray} {u : List UInt8} {c : UInt8} (h : StrIsL b (u ++ [c])) (hk : u.length < b.size) : b[u.length] = c := by
 have h1 := h.at_ hk
 have h2 : (u ++ [c])[u.length]? = some c := by simp
 rw [h2] at h1
 injection h1 with h1
 exact h1.symm
def strLenL (v : Value) : Nat := match v with | .string s => s.size | _ => 0
set_option maxRecDepth 100000 in
set_option maxHeartbeats 2000000 in
theorem rTrimmed_any (s : List UInt8) (hl : s.length ≤ 1048640) (w : World) : Calls Tryz.prog 87 #[.string ⟨s.toArray⟩] w fun e w' => e = .returned (.string ⟨(trimBL s).toArray⟩) ∧ w = w' := by
 go_enter Tryz.func87, Tryz.ntmps87
 go_wp2_with fail
 go_loop [0] (fun x => ∃ t : List UInt8, x = .string ⟨t.toArray⟩ ∧ t.length ≤ 1048640 ∧ Hid (trimLL s = trimLL t)) (fun x => strLenL x)
 case atStart => exact ⟨s, rfl, hl, Lib.hid rfl⟩
 case round =>
  obtain ⟨t, rfl, ht, HT⟩ := hrel
  cases t with
  | nil =>
    go_wp2_with fail
    go_loop [0] (fun x => ∃ t : List UInt8, x = .string ⟨t.toArray⟩ ∧ t.length ≤ 1048640 ∧ Hid (trimBL s = trimRL t)) (fun x => strLenL x)
    case atStart => exact ⟨[], rfl, by simp, Lib.hid (by unfold trimBL; rw [HT.out]; rfl)⟩
    case round =>
     clear HT
     obtain ⟨t, rfl, ht, HT⟩ := hrel
     by_cases h0 : t = []
     ·subst h0
      go_wp2_with fail
      go_ret
      exact ⟨by rw [HT.out]; rfl, rfl⟩
     ·obtain ⟨u, d, rfl⟩ := snoc_of h0
      have HS := Lib.hid (strIsL (u ++ [d]))
      have hsz : (⟨(u ++ [d]).toArray⟩ : ByteArray).size = u.length + 1 := by rw [HS.out.size]; simp
      have hul : u.length ≤ 1048639 := by simp at ht; omega
      have HD : Hid ((⟨(u ++ [d]).toArray⟩ : ByteArray).toList.isEmpty = false) := Lib.hid (by rw [Lib.toList_data]; simp)
      have HX := Lib.hid (trimRL_snoc u d)
      have HE : Hid (trimRL (u ++ [d]) = u ++ [d] → (⟨(trimRL (u ++ [d])).toArray⟩ : ByteArray) = ⟨(u ++ [d]).toArray⟩) := Lib.hid (fun h => by rw [h])
      clear ht h0
      cases hb : blankB d with
      | true =>
        rw [hb] at HX
        have HBL := Lib.hid (fun W => rBlank_is d W hb)
        have HT2 : Hid (trimBL s = trimRL u) := Lib.hid (by rw [HT.out, HX.out]; rfl)
        have hsl := ext_takeL HS.out u.length
        rw [List.take_left'  rfl] at hsl
        have HMS : Hid (strLenL (.string ⟨u.toArray⟩) < strLenL (.string ⟨(u ++ [d]).toArray⟩)) := Lib.hid (by show u.length < (u ++ [d]).length; simp)
        generalize (⟨(u ++ [d]).toArray⟩ : ByteArray) = b at *
        have g1 : ∀ h, b[u.length]'h = d := fun h => last_at HS.out h
        have e1 : (b.size : Int) - 1 = (u.length : Int) := by omega
        have l1 : (u.length : Int) < (b.size : Int) := by omega
        have l2 : u.length < b.size := by omega
        have l3 : u.length ≤ b.size := by omega
        have he := HD.out
        clear hb HE
        go_wp2_with fail
        refine (HBL.out _).mono ?_
        rintro e w2 ⟨rfl, rfl⟩
        go_wp2_with fail
        exact ⟨⟨u, rfl, by omega, HT2⟩, HMS.out⟩
      | false =>
        rw [hb] at HX
        have HBL := Lib.hid (fun W => rBlank_is d W hb)
        have HT2 : Hid ((⟨(trimBL s).toArray⟩ : ByteArray) = ⟨(u ++ [d]).toArray⟩) := Lib.hid (by rw [HT.out]; exact HE.out HX.out)
        generalize (⟨(u ++ [d]).toArray⟩ : ByteArray) = b at *
        have g1 : ∀ h, b[u.length]'h = d := fun h => last_at HS.out h
        have e1 : (b.size : Int) - 1 = (u.length : Int) := by omega
        have l1 : (u.length : Int) < (b.size : Int) := by omega
        have l2 : u.length < b.size := by omega
        have he := HD.out
        clear hb HE
        go_wp2_with fail
        refine (HBL.out _).mono ?_
        rintro e w2 ⟨rfl, rfl⟩
        go_wp2_with fail
        go_ret
        exact ⟨by rw [HT2.out]; rfl, rfl⟩
  | cons c t' =>
    have g0 : ∀ h, (⟨(c :: t').toArray⟩ : ByteArray)[0]'h = c := fun _ => rfl
    have hsl := ext_tail c t'
    cases hb : blankB c with
    | true =>
      have HBL := Lib.hid (fun W => rBlank_is c W hb)
      have HT2 : Hid (trimLL s = trimLL t') := Lib.hid (by rw [HT.out, trimLL_cons, hb]; rfl)
      have hl2 : t'.length ≤ 1048640 := by simp at ht; omega
      clear hb ht
      go_wp2_with fail
      refine (HBL.out _).mono ?_
      rintro e w2 ⟨rfl, rfl⟩
      go_wp2_with fail
      exact ⟨⟨t', rfl, hl2, HT2⟩, Nat.lt_succ_self _⟩
    | false =>
      have HBL := Lib.hid (fun W => rBlank_is c W hb)
      have HT : Hid (trimLL s = c :: t') := Lib.hid (by rw [HT.out, trimLL_cons, hb]; rfl)
      have hl2 : (c :: t').length ≤ 1048640 := ht
      clear hb ht
      go_wp2_with fail
      refine (HBL.out _).mono ?_
      rintro e w2 ⟨rfl, rfl⟩
      clear g0 hsl
      go_wp2_with fail
      go_loop [0] (fun x => ∃ t : List UInt8, x = .string ⟨t.toArray⟩ ∧ t.length ≤ 1048640 ∧ Hid (trimBL s = trimRL t)) (fun x => strLenL x)
      case atStart => exact ⟨c :: t', rfl, hl2, Lib.hid (by unfold trimBL; rw [HT.out])⟩
      case round =>
       clear HT
       obtain ⟨t, rfl, ht, HT⟩ := hrel
       by_cases h0 : t = []
       ·subst h0
        go_wp2_with fail
        go_ret
        exact ⟨by rw [HT.out]; rfl, rfl⟩
       ·obtain ⟨u, d, rfl⟩ := snoc_of h0
        have HS := Lib.hid (strIsL (u ++ [d]))
        have hsz : (⟨(u ++ [d]).toArray⟩ : ByteArray).size = u.length + 1 := by rw [HS.out.size]; simp
        have hul : u.length ≤ 1048639 := by simp at ht; omega
        have HD : Hid ((⟨(u ++ [d]).toArray⟩ : ByteArray).toList.isEmpty = false) := Lib.hid (by rw [Lib.toList_data]; simp)
        have HX := Lib.hid (trimRL_snoc u d)
        have HE : Hid (trimRL (u ++ [d]) = u ++ [d] → (⟨(trimRL (u ++ [d])).toArray⟩ : ByteArray) = ⟨(u ++ [d]).toArray⟩) := Lib.hid (fun h => by rw [h])
        clear ht h0
        cases hb : blankB d with
        | true =>
          rw [hb] at HX
          have HBL := Lib.hid (fun W => rBlank_is d W hb)
          have HT2 : Hid (trimBL s = trimRL u) := Lib.hid (by rw [HT.out, HX.out]; rfl)
          have hsl := ext_takeL HS.out u.length
          rw [List.take_left'  rfl] at hsl
          have HMS : Hid (strLenL (.string ⟨u.toArray⟩) < strLenL (.string ⟨(u ++ [d]).toArray⟩)) := Lib.hid (by show u.length < (u ++ [d]).length; simp)
          generalize (⟨(u ++ [d]).toArray⟩ : ByteArray) = b at *
          have g1 : ∀ h, b[u.length]'h = d := fun h => last_at HS.out h
          have e1 : (b.size : Int) - 1 = (u.length : Int) := by omega
          have l1 : (u.length : Int) < (b.size : Int) := by omega
          have l2 : u.length < b.size := by omega
          have l3 : u.length ≤ b.size := by omega
          have he := HD.out
          clear hb HE
          go_wp2_with fail
          refine (HBL.out _).mono ?_
          rintro e w2 ⟨rfl, rfl⟩
          go_wp2_with fail
          exact ⟨⟨u, rfl, by omega, HT2⟩, HMS.out⟩
        | false =>
          rw [hb] at HX
          have HBL := Lib.hid (fun W => rBlank_is d W hb)
          have HT2 : Hid ((⟨(trimBL s).toArray⟩ : ByteArray) = ⟨(u ++ [d]).toArray⟩) := Lib.hid (by rw [HT.out]; exact HE.out HX.out)
          generalize (⟨(u ++ [d]).toArray⟩ : ByteArray) = b at *
          have g1 : ∀ h, b[u.length]'h = d := fun h => last_at HS.out h
          have e1 : (b.size : Int) - 1 = (u.length : Int) := by omega
          have l1 : (u.length : Int) < (b.size : Int) := by omega
          have l2 : u.length < b.size := by omega
          have he := HD.out
          clear hb HE
          go_wp2_with fail
          refine (HBL.out _).mono ?_
          rintro e w2 ⟨rfl, rfl⟩
          go_wp2_with fail
          go_ret
          exact ⟨by rw [HT2.out]; rfl, rfl⟩
end Go.Proofs.YtoandhhkmkgmaaaGreatDoor
namespace Go.Proofs.YtoandhhkmkgmaaaGreatDoor
open Go.RowKit

end Go.Proofs.YtoandhhkmkgmaaaGreatDoor
namespace Go.Proofs.YtoandhhkmkgmaaaGreatDoor
open Go.RowKit

end Go.Proofs.YtoandhhkmkgmaaaGreatDoor
namespace Go.Proofs.YtoandhhkmkgmaaaGreatDoor
open Go.RowKit

section
variable {w w' : World} {b : Nat} {t : TypeId} {vs : List Value}
end
theorem own_belowL {w w' : World} {B : Nat} {e : TypeId} {sz : Nat} {v : Value} {n : Nat} {xs : List Value} (h : w.ownsRow B e sz v n xs) (hb : Below w.heap.size w w') : w'.ownsRow B e sz v n xs :=
 h.kept (w' := w') (row := none) ⟨hb.os, hb.tape, hb.output, hb.size, fun k hk _ => hb.block k hk⟩ (by
  cases hv : v.ownBlock with
  | none => exact .inl rfl
  | some g => exact .inr (by simp))
end Go.Proofs.YtoandhhkmkgmaaaGreatDoor
namespace Go.Proofs.YtoandhhkmkgmaaaGreatDoor
open Go.RowKit

end Go.Proofs.YtoandhhkmkgmaaaGreatDoor
namespace Go.Proofs.YtoandhhkmkgmaaaGreatDoor
open Go.RowKit

end Go.Proofs.YtoandhhkmkgmaaaGreatDoor
namespace Go.Proofs.YtoandhhkmkgmaaaGreatDoor
open Go.RowKit

end Go.Proofs.YtoandhhkmkgmaaaGreatDoor
namespace Go.Proofs.YtoandhhkmkgmaaaGreatDoor
open Go.RowKit

theorem ixb_cases : ∀ (l : List UInt8) (c : UInt8), (Lib.indexByte l c = -1 ∧ c ∉ l) ∨ ∃ k : Nat, Lib.indexByte l c = (k : Int) ∧ l[k]? = some c ∧ c ∉ l.take k
 | [], c => .inl ⟨rfl, by simp⟩
 | b :: l, c => by
   by_cases h : b = c
   ·subst h
    exact .inr ⟨0, by simp [Lib.indexByte], rfl, by simp⟩
   ·have hb : (b == c) = false := beq_eq_false_iff_ne.2 h
    rcases ixb_cases l c with ⟨h1, h2⟩ | ⟨k, h1, h2, h3⟩
    ·refine .inl ⟨by simp [Lib.indexByte, hb, h1], ?_⟩
     rw [List.mem_cons]
     rintro (e | e)
     ·exact h e.symm
     ·exact h2 e
    ·refine .inr ⟨k + 1, ?_, by simpa using h2, ?_⟩
     ·have : ((k : Int) == -1) = false := by simp
      simp [Lib.indexByte, hb, h1, this]
      try omega
     ·rw [List.take_succ_cons, List.mem_cons]
      rintro (e | e)
      ·exact h e.symm
      ·exact h3 e
def SplPost (s : List UInt8) (c : UInt8) (w : World) (e : Ending) (w' : World) : Prop :=
 Below w.heap.size w w' ∧ ((c ∉ s ∧ e = .returned (.tuple #[.string ⟨s.toArray⟩, .string ⟨#[]⟩, .bool false])) ∨
  ∃ k : Nat, s[k]? = some c ∧ c ∉ s.take k ∧ e = .returned (.tuple #[.string ⟨(trimBL (s.take k)).toArray⟩, .string ⟨(trimBL (s.drop (k + 1))).toArray⟩, .bool true]))
set_option maxRecDepth 100000 in
set_option maxHeartbeats 400000 in
theorem lnSplit_any (s : List UInt8) (c : UInt8) (hl : s.length ≤ 1048640) (w : World) : Calls Tryz.prog 78 #[.string ⟨s.toArray⟩, .int .u8 (c.toNat : Int)] w (SplPost s c w) := by
 have HI := Lib.hid (Tryz.strings_IndexByte ⟨s.toArray⟩ (c.toNat : Int) w)
 have hcs := ixb_cases s c
 have HS := Lib.hid (strIsL s)
 have hof : ((c.toNat : Int)).toNat.toUInt8 = c := by simp
 rw [hof, show (⟨s.toArray⟩ : ByteArray).data.toList = s from rfl] at HI
 rcases hcs with ⟨h1, h2⟩ | ⟨k, h1, h2, h3⟩
 ·rw [h1] at HI
  have H2 := Lib.hid h2
  have HSE := Lib.hid (show Value.string ⟨s.toArray⟩ = .string ⟨s.toArray⟩ from rfl)
  clear h1 h2
  generalize hbs : (⟨s.toArray⟩ : ByteArray) = b at *
  have HBS := Lib.hid hbs
  clear hbs
  go_enter Tryz.func78, Tryz.ntmps78
  go_wp2_with fail
  refine HI.out.mono ?_
  rintro e w' ⟨rfl, rfl⟩
  go_wp2_with fail
  go_ret3
  exact ⟨Below.refl _ _, .inl ⟨H2.out, by rw [HBS.out]; rfl⟩⟩
 ·rw [h1] at HI
  have H2 := Lib.hid h2
  have H3 := Lib.hid h3
  have hks : k < s.length := (List.getElem?_eq_some_iff.1 h2).1
  have hsl := ext_takeL HS.out k
  have hsr := ext_dropL HS.out (k + 1)
  have HT1 := Lib.hid (fun W => sTrim_any (s.take k) (by rw [List.length_take]; omega) W)
  have HT2 := Lib.hid (fun W => sTrim_any (s.drop (k + 1)) (by rw [List.length_drop]; omega) W)
  have hsz : (⟨s.toArray⟩ : ByteArray).size = s.length := rfl
  clear h1 h2 h3 hof
  generalize (⟨s.toArray⟩ : ByteArray) = b at *
  generalize (⟨(s.take k).toArray⟩ : ByteArray) = bu at *
  generalize (⟨(s.drop (k + 1)).toArray⟩ : ByteArray) = bv at *
  have k1 : k < b.size := by omega
  have k2 : (k : Int) < (b.size : Int) := by omega
  have k3 : (k : Int) + 1 ≤ (b.size : Int) := by omega
  have k4 : 0 ≤ (k : Int) + 1 := by omega
  have k5 : (k : Int) ≤ (b.size : Int) := by omega
  have k7 : 0 ≤ (k : Int) := by omega
  have hw2 : IntKind.i64.wrap ((k : Int) + 1) = (k : Int) + 1 := by rw [IntKind.wrap_i64]; omega
  have k6 : b.size ≤ 1048640 := by omega
  clear hsz hks hl
  go_enter Tryz.func78, Tryz.ntmps78
  go_wp2_with fail
  refine HI.out.mono ?_
  rintro e w' ⟨rfl, rfl⟩
  go_wp2_with fail
  have B0 := Below.refl w'.heap.size w'
  clear k1 k6
  go_region_held3 (fun W => Below w'.heap.size w' W) ((first | assumption | exact Below.drew (by assumption))) ((first
   | (go_at_call_of 140 (Value.string bu); refine (HT1.out _).mono ?_; rintro e w5 ⟨rfl, hb5⟩; first | (have B5 := below_newL B6 hb5) | (have B5 := below_newL (Below.drew B0) hb5))
   | (go_at_call_of 140 (Value.string bv); refine (HT2.out _).mono ?_; rintro e w6 ⟨rfl, hb6⟩; first | (have B6 := below_newL B5 hb6) | (have B6 := below_newL (Below.drew B0) hb6))))
  have HB6 := Lib.hid B6
  clear B5 B6 hb5 hb6
  go_wp2_with fail
  go_ret3
  exact ⟨HB6.out, .inr ⟨k, H2.out, H3.out, rfl⟩⟩
end Go.Proofs.YtoandhhkmkgmaaaGreatDoor
