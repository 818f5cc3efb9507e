/- Contracts that the law's proof leans on, and plain lemmas to them, merged. No condition beyond each contract's own hypotheses. -/
import Derived.Test.YtoandhhkmkgmaaaGreatDoorMg10
import Derived.Lib.FieldsP
import Derived.Lib.SpaceUEq
import Derived.Lib.TrimUEq
import Derived.Lib.MapLaws
import Derived.Lib.TrimU
import Derived.Lib.QuoteLoop
import Derived.Test.YtoandhhkmkgmaaaGreatDoorMg4
namespace Go.Proofs.YtoandhhkmkgmaaaGreatDoor

def wStep (x : List (List UInt8) × List UInt8) (c : UInt8) : List (List UInt8) × List UInt8 := if blankB c then (if x.2.isEmpty then x else (x.1 ++ [x.2], [])) else (x.1, x.2 ++ [c])
def wFold (s : List UInt8) : List (List UInt8) × List UInt8 := s.foldl wStep ([], [])
def wEnd (x : List (List UInt8) × List UInt8) : List (List UInt8) := if x.2.isEmpty then x.1 else x.1 ++ [x.2]
def wordsL (s : List UInt8) : List (List UInt8) := wEnd (wFold s)
theorem wFold_snoc (s : List UInt8) (c : UInt8) : wFold (s ++ [c]) = wStep (wFold s) c := by unfold wFold; rw [List.foldl_append]; rfl
def pB (r : Nat) : Bool := r == 32 || r == 9
theorem pB_byte (c : UInt8) : pB c.toNat = blankB c := by
 unfold pB blankB
 rw [Bool.eq_iff_iff]
 simp only [Bool.or_eq_true, beq_iff_eq]
 constructor
 ·rintro (h | h)
  ·left; exact UInt8.toNat_inj.1 h
  ·right; exact UInt8.toNat_inj.1 h
 ·rintro (h | h) <;> rw [h] <;> simp
def segW (s : List UInt8) (a q : Nat) : List UInt8 := (s.drop a).take (q - a)
theorem segW_app {s : List UInt8} {a p k : Nat} (h : a ≤ p) : segW s a p ++ (s.drop p).take k = segW s a (p + k) := by
 unfold segW
 rw [show p + k - a = (p - a) + k by omega, List.take_add, List.drop_drop, show a + (p - a) = p by omega]
theorem wRun {s : List UInt8} {p : Nat} : ∀ k, p + k ≤ s.length → (∀ j c, j < k → s[p + j]? = some c → blankB c = false) → wFold (s.take (p + k)) = ((wFold (s.take p)).1, (wFold (s.take p)).2 ++ (s.drop p).take k)
 | 0, _, _ => by simp
 | k + 1, hk, h => by
   have ih := wRun (s := s) (p := p) k (by omega) (fun j c hj => h j c (by omega))
   have hx : s[p + k]? = some (s[p + k]'(by omega)) := List.getElem?_eq_getElem (by omega)
   have hb := h k _ (by omega) hx
   rw [show p + (k + 1) = (p + k) + 1 by omega, take_snocL hx, wFold_snoc, ih]
   unfold wStep
   rw [hb]
   have hd : (s.drop p)[k]? = some (s[p + k]'(by omega)) := by rw [List.getElem?_drop]; exact hx
   rw [take_snocL hd, List.append_assoc]
   rfl
theorem seg_ne {s : List UInt8} {a q : Nat} (h : a < q) (hq : q ≤ s.length) : (segW s a q).isEmpty = false := by
 unfold segW
 rw [Bool.eq_false_iff]
 intro he
 have := List.isEmpty_iff.1 he
 have hl := congrArg List.length this
 rw [List.length_take, List.length_drop] at hl
 simp at hl
 omega
def wordOf (s : List UInt8) (st : Option Nat) (p : Nat) : List UInt8 := match st with | none => [] | some a => segW s a p
theorem rune_at {b : ByteArray} {s : List UInt8} (h : StrIsL b s) {p : Nat} (hp : p < s.length) :
 (∃ c, s[p]? = some c ∧ pB (Utf8.decode b p).1 = blankB c ∧ (Utf8.decode b p).2 = 1) ∨
 (pB (Utf8.decode b p).1 = false ∧ 1 ≤ (Utf8.decode b p).2 ∧ p + (Utf8.decode b p).2 ≤ s.length ∧ ∀ j c, j < (Utf8.decode b p).2 → s[p + j]? = some c → blankB c = false) := by
 have hd := Lib.decode_N b p
 rw [h.data] at hd
 have hx : s[p]? = some (s[p]'hp) := List.getElem?_eq_getElem hp
 have h0 : s.getD p 0 = s[p]'hp := by rw [List.getD_eq_getElem?_getD, hx]; rfl
 by_cases ha : (s[p]'hp).toNat < 128
 ·left
  refine ⟨_, hx, ?_, ?_⟩
  ·rw [hd, h0, Lib.decodeN_ascii _ _ _ _ _ ha]; exact pB_byte _
  ·rw [hd, h0, Lib.decodeN_ascii _ _ _ _ _ ha]
 ·right
  have hw1 := Lib.decodeN_ge1 (s.length - p) (s.getD p 0).toNat (s.getD (p + 1) 0).toNat (s.getD (p + 2) 0).toNat (s.getD (p + 3) 0).toNat
  have hw2 := Lib.decodeN_width_le (s.length - p) (s.getD p 0).toNat (s.getD (p + 1) 0).toNat (s.getD (p + 2) 0).toNat (s.getD (p + 3) 0).toNat (by omega)
  obtain ⟨k1, k2, k3, k4⟩ := Lib.decodeN_conts (s.length - p) (s.getD p 0).toNat (s.getD (p + 1) 0).toNat (s.getD (p + 2) 0).toNat (s.getD (p + 3) 0).toNat
  have hsh := Lib.decodeN_shape (s.length - p) (s.getD p 0).toNat (s.getD (p + 1) 0).toNat (s.getD (p + 2) 0).toNat (s.getD (p + 3) 0).toNat
  rw [← hd] at hw1 hw2 k1 k2 k3 k4 hsh
  refine ⟨?_, hw1, by omega, ?_⟩
  ·have hr : 128 ≤ (Utf8.decode b p).1 := by
    rw [h0] at hsh
    rcases hsh with ⟨h1, _⟩ | ⟨_, _, _, h1, e⟩ | ⟨_, _, _, _, h1, _, e⟩ | ⟨_, _, _, _, _, h1, _, e⟩ | e
    ·omega
    all_goals (rw [e]; simp only; omega)
   unfold pB
   have a1 : ((Utf8.decode b p).1 == 32) = false := by simp; omega
   have a2 : ((Utf8.decode b p).1 == 9) = false := by simp; omega
   rw [a1, a2]; rfl
  ·intro j c hj hc
   have hbig : 64 ≤ c.toNat := by
    have hg : s.getD (p + j) 0 = c := by rw [List.getD_eq_getElem?_getD, hc]; rfl
    have hj4 : j = 0 ∨ j = 1 ∨ j = 2 ∨ j = 3 := by omega
    rcases hj4 with rfl | rfl | rfl | rfl
    ·rw [Nat.add_zero, hx] at hc
     injection hc with hc
     rw [← hc]; omega
    ·have := (k1 (by omega)).1; rw [hg] at this; omega
    ·have := (k2 (by omega)).1; rw [hg] at this; omega
    ·have := (k3 (by omega)).1; rw [hg] at this; omega
   unfold blankB
   have a1 : (c == 32) = false := by
    apply beq_eq_false_iff_ne.2
    intro e; rw [e] at hbig; exact absurd hbig (by decide)
   have a2 : (c == 9) = false := by
    apply beq_eq_false_iff_ne.2
    intro e; rw [e] at hbig; exact absurd hbig (by decide)
   rw [a1, a2]; rfl
theorem spans_words {b : ByteArray} {s : List UInt8} (h : StrIsL b s) : ∀ (f p : Nat) (st : Option Nat) (acc : List (Nat × Nat)), p ≤ s.length → s.length - p ≤ f →
 wFold (s.take p) = (acc.map fun x => segW s x.1 x.2, wordOf s st p) → (∀ a, st = some a → a < p) →
 (Lib.closeSpans b (Lib.spansFromP pB b f p st acc)).map (fun x => segW s x.1 x.2) = wordsL s := by
 intro f
 induction f with
 | zero =>
   intro p st acc hp hf hw hst
   obtain rfl : p = s.length := by omega
   rw [List.take_length] at hw
   unfold wordsL wEnd
   rw [hw]
   cases st with
   | none => rfl
   | some a =>
     have := seg_ne (hst a rfl) (Nat.le_refl s.length)
     simp only [wordOf, this, Lib.spansFromP, Lib.closeSpans, List.map_append, List.map_cons, List.map_nil, Bool.false_eq_true, if_false]
     rw [h.size]
 | succ f ih =>
   intro p st acc hp hf hw hst
   unfold Lib.spansFromP
   by_cases hlt : p < b.size
   ·rw [if_pos hlt]
    have hlt' : p < s.length := by rw [← h.size]; exact hlt
    rcases rune_at h hlt' with ⟨c, hc, hpb, hk⟩ | ⟨hpb, hk1, hk2, hk3⟩
    ·rw [hk, hpb]
     have hsn := take_snocL hc
     cases hbc : blankB c with
     | true =>
       simp only [if_true]
       cases st with
       | none =>
         refine ih _ _ _ (by omega) (by omega) ?_ (fun a ha => by cases ha)
         rw [hsn, wFold_snoc, hw]
         unfold wStep
         rw [hbc]
         rfl
       | some a =>
         refine ih _ _ _ (by omega) (by omega) ?_ (fun a ha => by cases ha)
         rw [hsn, wFold_snoc, hw]
         unfold wStep
         rw [hbc]
         have := seg_ne (hst a rfl) hp
         simp only [wordOf, this, if_true, Bool.false_eq_true, if_false, List.map_append, List.map_cons, List.map_nil]
     | false =>
       simp only [Bool.false_eq_true, if_false]
       have hr := wRun (s := s) (p := p) 1 (by omega) (fun j d hj hd => by
        obtain rfl : j = 0 := by omega
        rw [Nat.add_zero, hc] at hd
        injection hd with hd
        rw [← hd]; exact hbc)
       cases st with
       | none =>
         refine ih _ _ _ (by omega) (by omega) ?_ (fun a ha => by injection ha with ha; omega)
         rw [hr, hw]
         simp only [wordOf, List.nil_append]
         unfold segW
         rw [show p + 1 - p = 1 by omega]
       | some a =>
         refine ih _ _ _ (by omega) (by omega) ?_ (fun a' ha => by injection ha with ha; have := hst a rfl; omega)
         rw [hr, hw]
         simp only [wordOf]
         rw [segW_app (by have := hst a rfl; omega)]
    ·rw [hpb]
     simp only [Bool.false_eq_true, if_false]
     have hr := wRun (s := s) (p := p) _ hk2 hk3
     generalize (Utf8.decode b p).2 = k at *
     cases st with
     | none =>
       refine ih _ _ _ hk2 (by omega) ?_ (fun a ha => by injection ha with ha; omega)
       rw [hr, hw]
       simp only [wordOf, List.nil_append]
       unfold segW
       rw [show p + k - p = k by omega]
     | some a =>
       refine ih _ _ _ hk2 (by omega) ?_ (fun a' ha => by injection ha with ha; have := hst a rfl; omega)
       rw [hr, hw]
       simp only [wordOf]
       rw [segW_app (by have := hst a rfl; omega)]
   ·rw [if_neg hlt]
    obtain rfl : p = s.length := by have := h.size; omega
    rw [List.take_length] at hw
    unfold wordsL wEnd
    rw [hw]
    cases st with
    | none => rfl
    | some a =>
      have := seg_ne (hst a rfl) (Nat.le_refl s.length)
      simp only [wordOf, this, Lib.closeSpans, List.map_append, List.map_cons, List.map_nil, Bool.false_eq_true, if_false]
      rw [h.size]
theorem fields_words {b : ByteArray} {s : List UInt8} (h : StrIsL b s) : Lib.goFieldsP pB b = (wordsL s).map fun x => (⟨x.toArray⟩ : ByteArray) := by
 have hs := spans_words h b.size 0 none [] (Nat.zero_le _) (by rw [h.size]; omega) rfl (fun a ha => by cases ha)
 unfold Lib.goFieldsP Lib.spansOfP
 rw [← hs, List.map_map]
 apply List.map_congr_left
 intro x _
 have h1 := Lib.extract_data b x.1 x.2
 rw [h.data] at h1
 show b.extract x.1 x.2 = ⟨(segW s x.1 x.2).toArray⟩
 calc b.extract x.1 x.2 = ⟨(b.extract x.1 x.2).data.toList.toArray⟩ := rfl
  _ = _ := by rw [h1]; rfl
end Go.Proofs.YtoandhhkmkgmaaaGreatDoor
namespace Go.Proofs.YtoandhhkmkgmaaaGreatDoor
open Go.RowKit

theorem elStrL : ElT Tryz.prog 22 9 (.string ⟨#[]⟩) 16 := ElT.mk' Tryz.underlying22 (by kernel_rfl) rfl
def svL (s : List UInt8) : Value := .string ⟨s.toArray⟩
set_option maxRecDepth 100000 in
theorem wordsP_any (x : Nat) (W : World) : Calls Tryz.prog 149 #[.int .i32 (x : Int)] W fun e w' => e = .returned (.bool (pB x)) ∧ w' = W := by
 by_cases h32 : x = 32
 ·subst h32
  go_enter Tryz.func149, Tryz.ntmps149
  go_wp2_with fail
  go_ret
  exact ⟨rfl, rfl⟩
 ·have k32 : ((x : Int) == 32) = false := by simp; omega
  by_cases h9 : x = 9
  ·subst h9
   go_enter Tryz.func149, Tryz.ntmps149
   go_wp2_with fail
   go_ret
   exact ⟨rfl, rfl⟩
  ·have k9 : ((x : Int) == 9) = false := by simp; omega
   have HB : Hid (pB x = false) := Lib.hid (by unfold pB; simp [h32, h9])
   clear h32 h9
   go_enter Tryz.func149, Tryz.ntmps149
   go_wp2_with fail
   go_ret
   exact ⟨by rw [HB.out]; rfl, rfl⟩
set_option maxRecDepth 100000 in
theorem lnWords_any (s : List UInt8) (hl : s.length ≤ 4294967296) (w : World) : Calls Tryz.prog 82 #[.string ⟨s.toArray⟩] w fun e w' => ∃ A, e = .returned (.slice (some ⟨A, 0, none⟩) (wordsL s).length (wordsL s).length) ∧ w'.ownsRow w.heap.size 9 1 (.slice (some ⟨A, 0, none⟩) (wordsL s).length (wordsL s).length) (wordsL s).length ((wordsL s).map svL) ∧ Below w.heap.size w w' := by
 have HF := Lib.hid (Tryz.strings_FieldsFunc_runes 149 #[] (enters_of Tryz.func149 (by kernel_rfl) rfl) pB ⟨s.toArray⟩ w hl (fun W x _ _ => (wordsP_any x W).mono fun e w' ⟨h1, h2⟩ => ⟨h1, 0, h2⟩))
 rw [fields_words (strIsL s), List.length_map, List.map_map] at HF
 generalize (⟨s.toArray⟩ : ByteArray) = b at *
 go_enter Tryz.func82, Tryz.ntmps82
 go_wp2_with fail
 refine HF.out.mono ?_
 rintro e w' ⟨A, rfl, _, hown, hb⟩
 have HO := Lib.hid hown
 have HB := Lib.hid hb
 clear hown hb
 go_wp2_with fail
 go_ret
 exact ⟨A, rfl, HO.out, HB.out⟩
def WordsPost (s : List UInt8) (w : World) (e : Ending) (w' : World) : Prop :=
 ∃ A c, e = .returned (.slice A (wordsL s).length c) ∧ w'.ownsRow w.heap.size 9 1 (.slice A (wordsL s).length c) (wordsL s).length ((wordsL s).map svL) ∧ Below w.heap.size w w'
theorem wFold_len (s : List UInt8) : ∀ i, (wFold (s.take i)).2.length ≤ i ∧ (wFold (s.take i)).1.length ≤ i
 | 0 => by simp [wFold]
 | i + 1 => by
   have ih := wFold_len s i
   by_cases hi : i < s.length
   ·rw [take_snocL (List.getElem?_eq_getElem hi), wFold_snoc]
    unfold wStep
    split
    ·split
     ·omega
     ·simp; omega
    ·simp; omega
   ·rw [List.take_of_length_le (by omega)] at ih ⊢
    omega
set_option maxRecDepth 100000 in
set_option maxHeartbeats 2000000 in
theorem rWordsOf_any (s : List UInt8) (hl : s.length ≤ 1048576) (w : World) : Calls Tryz.prog 93 #[.string ⟨s.toArray⟩] w (WordsPost s w) := by
 have HS := Lib.hid (strIsL s)
 generalize (⟨s.toArray⟩ : ByteArray) = b at *
 have hsz : b.size = s.length := HS.out.size
 have HSZ := Lib.hid hsz
 have hbs : b.size ≤ 1048576 := by omega
 clear hsz hl
 go_enter Tryz.func93, Tryz.ntmps93
 go_wp2_with fail
 go_loopw [3, 4, 9] (fun x y z wr => ∃ (i q c : Nat) (A : Option Addr) (X : List (List UInt8)) (U : List UInt8), x = .slice A q c ∧ y = .string ⟨U.toArray⟩ ∧ z = .int .i64 (i : Int) ∧ i ≤ b.size + 1 ∧ q ≤ i ∧ U.length ≤ i ∧ Hid (X.length = q) ∧ Hid (i ≤ b.size → wFold (s.take i) = (X, U)) ∧ Hid (i = b.size + 1 → X = wordsL s) ∧ Hid (wr.ownsRow w.heap.size 9 1 (.slice A q c) q (X.map svL)) ∧ Hid (Below w.heap.size w wr)) (fun _ _ z _ => b.size + 1 - (intOf z).toNat)
 case atStart => exact ⟨0, 0, 0, none, [], [], rfl, rfl, rfl, by omega, by omega, by simp, Lib.hid rfl, Lib.hid (fun _ => rfl), Lib.hid (fun h => by omega), Lib.hid (World.ownsRow_nil _ _ _ _), Lib.hid (Below.refl _ _)⟩
 case round =>
  obtain ⟨i, q, c, A, X, U, rfl, rfl, rfl, hi, hq, hU, HX, HW, HE, HO, HB⟩ := hrel
  have hzz : w.heap.size ≤ wr.heap.size := HB.out.size
  have hqn : (q + 1) * 16 ≤ 140737488355328 := by omega
  by_cases hlt : i < b.size
  ·obtain ⟨d, hd⟩ : ∃ c, c = b[i] := ⟨_, rfl⟩
   have g0 : ∀ h, b[i]'h = d := fun _ => hd.symm
   have HC : Hid (s[i]? = some d) := Lib.hid (by rw [hd]; exact HS.out.at_ hlt)
   have hsg := ext_one HS.out HC.out
   have HF : Hid (wFold (s.take (i + 1)) = wStep (X, U) d) := Lib.hid (by rw [take_snocL HC.out, wFold_snoc, HW.out (by omega)])
   have i0 : (i : Int) < (b.size : Int) := by omega
   have i1 : (i : Int) < (b.size : Int) + 1 := by omega
   have i2 : (i : Int) + 1 ≤ (b.size : Int) := by omega
   have HNE : Hid (i + 1 = b.size + 1 → False) := Lib.hid (by omega)
   clear hd
   cases hb : blankB d with
   | true =>
     have HBL := Lib.hid (fun W => rBlank_is d W hb)
     by_cases hUe : U = []
     ·subst hUe
      have HF2 : Hid (wFold (s.take (i + 1)) = (X, [])) := Lib.hid (by rw [HF.out]; unfold wStep; rw [hb]; rfl)
      clear hb
      go_wp2_with fail
      refine (HBL.out _).mono ?_
      rintro e w2 ⟨rfl, rfl⟩
      go_wp2_with fail
      exact ⟨⟨i + 1, q, c, A, X, [], rfl, rfl, rfl, by omega, by omega, by simp, HX, Lib.hid (fun _ => HF2.out), Lib.hid (fun h => (HNE.out h).elim), HO, HB⟩, by simp only [intOf]; omega⟩
     ·have HF2 : Hid (wFold (s.take (i + 1)) = (X ++ [U], [])) := Lib.hid (by
       rw [HF.out]; unfold wStep; rw [hb]
       have : U.isEmpty = false := by cases U with
        | nil => exact absurd rfl hUe
        | cons a l => rfl
       simp [this])
      have HD : Hid ((⟨U.toArray⟩ : ByteArray).toList.isEmpty = false) := Lib.hid (by rw [Lib.toList_data]; cases U with
       | nil => exact absurd rfl hUe
       | cons a l => rfl)
      have HSU := Lib.hid (show Value.string ⟨U.toArray⟩ = svL U from rfl)
      generalize (⟨U.toArray⟩ : ByteArray) = bu at *
      have hd2 := HD.out
      clear hb hUe
      go_wp2_with fail
      refine (HBL.out _).mono ?_
      rintro e w2 ⟨rfl, rfl⟩
      go_wp2_with (at_builtin; refine wpList_push elStrL wr _ _ w.heap.size A q c _ (.string bu) HO.out rfl hzz hqn (by omega) rfl rfl rfl rfl ?_; intro A' c' w5 hown5 hb5)
      exact ⟨⟨i + 1, q + 1, c', A', X ++ [U], [], rfl, rfl, rfl, by omega, by omega, by simp, Lib.hid (by simp [HX.out]), Lib.hid (fun _ => HF2.out), Lib.hid (fun h => (HNE.out h).elim), Lib.hid (by rw [List.map_append, List.map_cons, List.map_nil, ← HSU.out]; exact hown5), Lib.hid (HB.out.trans hb5)⟩, by simp only [intOf]; omega⟩
   | false =>
     have HBL := Lib.hid (fun W => rBlank_is d W hb)
     have HF2 : Hid (wFold (s.take (i + 1)) = (X, U ++ [d])) := Lib.hid (by rw [HF.out]; unfold wStep; rw [hb]; rfl)
     have hcat := Lib.hid (show (⟨U.toArray⟩ : ByteArray) ++ ⟨#[d]⟩ = ⟨(U ++ [d]).toArray⟩ from cat_bytesL U [d])
     have hus : (⟨U.toArray⟩ : ByteArray).size ≤ 1048577 := by show U.length ≤ _; omega
     generalize (⟨U.toArray⟩ : ByteArray) = bu at *
     clear hb
     go_wp2_with fail
     refine (HBL.out _).mono ?_
     rintro e w2 ⟨rfl, rfl⟩
     go_wp2_with fail
     exact ⟨⟨i + 1, q, c, A, X, U ++ [d], rfl, congrArg Value.string hcat.out, rfl, by omega, by omega, by simp; omega, HX, Lib.hid (fun _ => HF2.out), Lib.hid (fun h => (HNE.out h).elim), HO, HB⟩, by simp only [intOf]; omega⟩
  ·by_cases hie : i = b.size
   ·subst hie
    have HWE : Hid (wordsL s = wEnd (X, U)) := Lib.hid (by
     have h := HW.out (Nat.le_refl _)
     rw [List.take_of_length_le (by rw [HSZ.out]; exact Nat.le_refl _)] at h
     unfold wordsL
     rw [h])
    have i0 : ¬ ((b.size : Int) < (b.size : Int)) := by omega
    have i1 : (b.size : Int) < (b.size : Int) + 1 := by omega
    by_cases hUe : U = []
    ·subst hUe
     have HXE : Hid (X = wordsL s) := Lib.hid (by rw [HWE.out]; rfl)
     go_wp2_with fail
     exact ⟨⟨b.size + 1, q, c, A, X, [], rfl, rfl, rfl, by omega, by omega, by simp, HX, Lib.hid (fun h => by omega), Lib.hid (fun _ => HXE.out), HO, HB⟩, by simp only [intOf]; omega⟩
    ·have HXE : Hid (X ++ [U] = wordsL s) := Lib.hid (by
      rw [HWE.out]; unfold wEnd
      have : U.isEmpty = false := by cases U with
       | nil => exact absurd rfl hUe
       | cons a l => rfl
      simp [this])
     have HD : Hid ((⟨U.toArray⟩ : ByteArray).toList.isEmpty = false) := Lib.hid (by rw [Lib.toList_data]; cases U with
      | nil => exact absurd rfl hUe
      | cons a l => rfl)
     have HSU := Lib.hid (show Value.string ⟨U.toArray⟩ = svL U from rfl)
     generalize (⟨U.toArray⟩ : ByteArray) = bu at *
     have hd2 := HD.out
     clear hUe
     go_wp2_with (at_builtin; refine wpList_push elStrL wr _ _ w.heap.size A q c _ (.string bu) HO.out rfl hzz hqn (by omega) rfl rfl rfl rfl ?_; intro A' c' w5 hown5 hb5)
     exact ⟨⟨b.size + 1, q + 1, c', A', X ++ [U], [], rfl, rfl, rfl, by omega, by omega, by simp, Lib.hid (by simp [HX.out]), Lib.hid (fun h => by omega), Lib.hid (fun _ => HXE.out), Lib.hid (by rw [List.map_append, List.map_cons, List.map_nil, ← HSU.out]; exact hown5), Lib.hid (HB.out.trans hb5)⟩, by simp only [intOf]; omega⟩
   ·have hi2 : i = b.size + 1 := by omega
    have HXE : Hid (X = wordsL s) := Lib.hid (HE.out hi2)
    have HQE : Hid ((wordsL s).length = q) := Lib.hid (by rw [← HXE.out]; exact HX.out)
    have i1 : (b.size : Int) + 1 ≤ (i : Int) := by omega
    clear hi2 hie hlt
    go_wp2_with fail
    go_ret
    refine ⟨A, c, by rw [HQE.out]; rfl, ?_, HB.out⟩
    rw [HQE.out, ← HXE.out]
    exact HO.out
end Go.Proofs.YtoandhhkmkgmaaaGreatDoor
namespace Go.Proofs.YtoandhhkmkgmaaaGreatDoor
open Go.RowKit

def spStep (c : UInt8) (x : List (List UInt8) × List UInt8) (d : UInt8) : List (List UInt8) × List UInt8 := if d = c then (x.1 ++ [x.2], []) else (x.1, x.2 ++ [d])
def spF (c : UInt8) (s : List UInt8) : List (List UInt8) × List UInt8 := s.foldl (spStep c) ([], [])
theorem spF_snoc (c : UInt8) (s : List UInt8) (d : UInt8) : spF c (s ++ [d]) = spStep c (spF c s) d := by unfold spF; rw [List.foldl_append]; rfl
theorem own_last {w : World} {B n c : Nat} {A : Option Addr} {X : List (List UInt8)} {U : List UInt8} (h : w.ownsRow B 9 1 (.slice A (n + 1) c) (n + 1) ((X ++ [U]).map svL)) (hX : X.length = n) :
 ∃ g, A = some ⟨g, 0, none⟩ ∧ B ≤ g ∧ w.cell? ⟨g, n, none⟩ = some (svL U) ∧ w.frozen? ⟨g, n, none⟩ = false ∧
  ∀ V : List UInt8, (w.setCell ⟨g, n, none⟩ (svL V)).ownsRow B 9 1 (.slice (some ⟨g, 0, none⟩) (n + 1) c) (n + 1) ((X ++ [V]).map svL) := by
 obtain ⟨hl, h2⟩ := h
 rcases h2 with ⟨_, h0⟩ | ⟨g, cap, cur, hv, hg, hh, hnc, hcm, hsz, ht⟩
 ·omega
 ·injection hv with hA _ hc
  subst hA hc
  have hn1 : n < cur.size := by omega
  have hx : (cur.toList.take ((n + 1) * 1))[n]? = some (svL U) := by
   rw [ht, List.getElem?_map, List.getElem?_append_right (by omega), hX, Nat.sub_self]
   rfl
  rw [List.getElem?_take, if_pos (by omega)] at hx
  have hx' : cur[n]? = some (svL U) := by rw [Array.getElem?_toList] at hx; exact hx
  refine ⟨g, rfl, hg, by simp [World.cell?, hh, hx'], by simp [World.frozen?, hh], fun V => ⟨by simp [hX], .inr ⟨g, c, cur.set n (svL V) hn1, rfl, hg, ?_, hnc, hcm, by simp [hsz], ?_⟩⟩⟩
  ·rw [heap_setCell_same w g n cur 9 (svL V) hh]
   congr 2
   rw [Array.setIfInBounds_def, dif_pos hn1]
  ·rw [Array.toList_set, List.take_set, ht]
   rw [List.map_append, List.map_append, List.set_append_right _ _ (by simp; omega)]
   simp [hX]
def SpPost (c : UInt8) (s : List UInt8) (w : World) (e : Ending) (w' : World) : Prop :=
 ∃ g k X U, spF c s = (X, U) ∧ e = .returned (.slice (some ⟨g, 0, none⟩) (X.length + 1) k) ∧ w'.ownsRow w.heap.size 9 1 (.slice (some ⟨g, 0, none⟩) (X.length + 1) k) (X.length + 1) ((X ++ [U]).map svL) ∧ X.length ≤ s.length ∧ Below w.heap.size w w'
theorem own_one (w : World) : (w.alloc (.cells #[.string ⟨#[]⟩] 9)).ownsRow w.heap.size 9 1 (.slice (some ⟨w.heap.size, 0, none⟩) 1 1) 1 (([] ++ [[]] : List (List UInt8)).map svL) :=
 ⟨rfl, .inr ⟨w.heap.size, 1, #[.string ⟨#[]⟩], rfl, Nat.le_refl _, heap_alloc_new w _, Nat.le_refl _, by unfold maxLen; decide, rfl, rfl⟩⟩
set_option maxRecDepth 100000 in
set_option maxHeartbeats 2000000 in
theorem rSplit_any (s : List UInt8) (c : UInt8) (hl : s.length ≤ 1048576) (w : World) : Calls Tryz.prog 62 #[.string ⟨s.toArray⟩, .int .u8 (c.toNat : Int)] w (SpPost c s w) := by
 have HS := Lib.hid (strIsL s)
 generalize (⟨s.toArray⟩ : ByteArray) = b at *
 have hsz : b.size = s.length := HS.out.size
 have HSZ := Lib.hid hsz
 have hbs : b.size ≤ 1048576 := by omega
 have HOW := Lib.hid (own_one w)
 have HBW := Lib.hid (Below.alloc (Below.refl w.heap.size w) (Nat.le_refl _) (.cells #[.string ⟨#[]⟩] 9))
 clear hsz hl
 go_enter Tryz.func62, Tryz.ntmps62
 go_upto_region 2 with fail
 generalize w.alloc (.cells #[.string ⟨#[]⟩] 9) = w1 at *
 go_wp2_with fail
 go_loopw [5, 10] (fun x y wr => ∃ (i q k g : Nat) (X : List (List UInt8)) (U : List UInt8), x = .slice (some ⟨g, 0, none⟩) (q + 1) k ∧ y = .int .i64 (i : Int) ∧ i ≤ b.size ∧ q ≤ i ∧ U.length ≤ i ∧ Hid (X.length = q) ∧ Hid (spF c (s.take i) = (X, U)) ∧ Hid (wr.ownsRow w.heap.size 9 1 (.slice (some ⟨g, 0, none⟩) (q + 1) k) (q + 1) ((X ++ [U]).map svL)) ∧ Hid (Below w.heap.size w wr)) (fun _ y _ => b.size - (intOf y).toNat)
 case atStart => exact ⟨0, 0, 1, w.heap.size, [], [], rfl, rfl, by omega, by omega, by simp, Lib.hid rfl, Lib.hid rfl, HOW, HBW⟩
 case round =>
  obtain ⟨i, q, k, g, X, U, rfl, rfl, hi, hq, hU, HX, HF, HO, HB⟩ := hrel
  by_cases hlt : i < b.size
  ·obtain ⟨d, hd⟩ : ∃ c, c = b[i] := ⟨_, rfl⟩
   have g0 : ∀ h, b[i]'h = d := fun _ => hd.symm
   have HC : Hid (s[i]? = some d) := Lib.hid (by rw [hd]; exact HS.out.at_ hlt)
   have hsg := ext_one HS.out HC.out
   have HF2 : Hid (spF c (s.take (i + 1)) = spStep c (X, U) d) := Lib.hid (by rw [take_snocL HC.out, spF_snoc, HF.out])
   have i0 : (i : Int) < (b.size : Int) := by omega
   have i1 : (i : Int) + 1 ≤ (b.size : Int) := by omega
   have i2 : 0 ≤ (i : Int) := by omega
   have i3 : 0 ≤ (i : Int) + 1 := by omega
   have hzz : w.heap.size ≤ wr.heap.size := HB.out.size
   clear hd
   by_cases hdc : d = c
   ·have kd : ((d.toNat : Int) == (c.toNat : Int)) = true := by rw [hdc]; simp
    have HF3 : Hid (spF c (s.take (i + 1)) = (X ++ [U], [])) := Lib.hid (by rw [HF2.out]; unfold spStep; rw [if_pos hdc])
    have hqn : (q + 1 + 1) * 16 ≤ 140737488355328 := by omega
    clear hdc
    go_wp2_with (at_builtin; refine wpList_push elStrL wr _ _ w.heap.size (some ⟨g, 0, none⟩) (q + 1) k _ (.string ⟨#[]⟩) HO.out rfl hzz hqn (by omega) rfl rfl rfl rfl ?_; intro A' c' w5 hown5 hb5)
    have HO5 : Hid (w5.ownsRow w.heap.size 9 1 (.slice A' (q + 1 + 1) c') (q + 1 + 1) (((X ++ [U]) ++ [[]]).map svL)) := Lib.hid (by rw [List.map_append (l₂ := [[]])]; exact hown5)
    obtain ⟨g5, rfl⟩ : ∃ g5, A' = some ⟨g5, 0, none⟩ := by
     obtain ⟨g5, h, _⟩ := own_last HO5.out (by simp [HX.out])
     exact ⟨g5, h⟩
    exact ⟨⟨i + 1, q + 1, c', g5, X ++ [U], [], rfl, rfl, by omega, by omega, by simp, Lib.hid (by simp [HX.out]), HF3, HO5, Lib.hid (HB.out.trans hb5)⟩, measL hlt⟩
   ·have kd : ((d.toNat : Int) == (c.toNat : Int)) = false := eqK hdc
    have HF3 : Hid (spF c (s.take (i + 1)) = (X, U ++ [d])) := Lib.hid (by rw [HF2.out]; unfold spStep; rw [if_neg hdc])
    obtain ⟨g', hg', hgB, hcl, hfz, hset⟩ := own_last HO.out HX.out
    injection hg' with hg'
    injection hg' with hg' _ _
    subst hg'
    have HSET := Lib.hid (hset (U ++ [d]))
    have hcat := Lib.hid (show (⟨U.toArray⟩ : ByteArray) ++ ⟨#[d]⟩ = ⟨(U ++ [d]).toArray⟩ from cat_bytesL U [d])
    have hus : (⟨U.toArray⟩ : ByteArray).size ≤ 1048577 := by show U.length ≤ _; omega
    have HBS := Lib.hid (HB.out.setCell (p := ⟨g, q, none⟩) hgB (svL (U ++ [d])))
    have hw1 : IntKind.i64.wrap (((q : Int) + 1) - 1) = (q : Int) := by rw [IntKind.wrap_i64]; omega
    have hw2 : IntKind.i64.wrap ((i : Int) + 1) = (i : Int) + 1 := by rw [IntKind.wrap_i64]; omega
    have hq1 : (q : Int) < (q : Int) + 1 := by omega
    have hq0 : 0 ≤ (q : Int) := by omega
    unfold svL at hcl HSET HBS
    generalize hbU : (⟨U.toArray⟩ : ByteArray) = bU at *
    rw [← hcat.out] at HSET HBS
    clear hdc hset hbU
    go_wp2_with fail
    go_region
    go_wp2_with fail
    exact ⟨⟨i + 1, q, k, g, X, U ++ [d], rfl, rfl, by omega, by omega, by simp; omega, HX, HF3, Lib.hid HSET.out, Lib.hid (Below.drew HBS.out)⟩, measL hlt⟩
  ·obtain rfl : i = b.size := by omega
   have HFE : Hid (spF c s = (X, U)) := Lib.hid (by have h := HF.out; rwa [List.take_of_length_le (by rw [HSZ.out]; exact Nat.le_refl _)] at h)
   go_wp2_with fail
   go_ret
   refine ⟨g, k, X, U, HFE.out, by rw [HX.out]; rfl, by rw [HX.out]; exact HO.out, by rw [HX.out, ← HSZ.out]; exact hq, HB.out⟩
end Go.Proofs.YtoandhhkmkgmaaaGreatDoor
