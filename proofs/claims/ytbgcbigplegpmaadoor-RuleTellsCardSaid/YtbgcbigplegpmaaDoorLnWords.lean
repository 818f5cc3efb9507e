/- Words of a line, in plain Lean: the pieces that the library's FieldsFunc tells, rune by rune, are those between blanks, byte by byte. No program in sight. -/
import Derived.Test.YtbgcbigplegpmaaDoorLn1
import Derived.Lib.FieldsP
import Derived.Lib.SpaceUEq
import Derived.Lib.TrimUEq
import Derived.Lib.MapLaws
import Derived.Lib.TrimU
import Derived.Lib.QuoteLoop
namespace Go.Proofs.YtbgcbigplegpmaaDoor

def wStep (x : List (List UInt8) × List UInt8) (c : UInt8) : List (List UInt8) × List UInt8 := if blankB c then (if x.2.isEmpty then x else (x.1 ++ [x.2], [])) else (x.1, x.2 ++ [c])
def wFold (s : List UInt8) : List (List UInt8) × List UInt8 := s.foldl wStep ([], [])
def wEnd (x : List (List UInt8) × List UInt8) : List (List UInt8) := if x.2.isEmpty then x.1 else x.1 ++ [x.2]
def wordsL (s : List UInt8) : List (List UInt8) := wEnd (wFold s)
theorem wFold_snoc (s : List UInt8) (c : UInt8) : wFold (s ++ [c]) = wStep (wFold s) c := by unfold wFold; rw [List.foldl_append]; rfl
def pB (r : Nat) : Bool := r == 32 || r == 9
theorem pB_byte (c : UInt8) : pB c.toNat = blankB c := by
  unfold pB blankB
  rw [Bool.eq_iff_iff]
  simp only [Bool.or_eq_true, beq_iff_eq]
  constructor
  · rintro (h | h)
    · left; exact UInt8.toNat_inj.1 h
    · right; exact UInt8.toNat_inj.1 h
  · rintro (h | h) <;> rw [h] <;> simp
def segW (s : List UInt8) (a q : Nat) : List UInt8 := (s.drop a).take (q - a)
theorem segW_app {s : List UInt8} {a p k : Nat} (h : a ≤ p) : segW s a p ++ (s.drop p).take k = segW s a (p + k) := by
  unfold segW
  rw [show p + k - a = (p - a) + k by omega, List.take_add, List.drop_drop, show a + (p - a) = p by omega]
theorem wRun {s : List UInt8} {p : Nat} : ∀ k, p + k ≤ s.length → (∀ j c, j < k → s[p + j]? = some c → blankB c = false) → wFold (s.take (p + k)) = ((wFold (s.take p)).1, (wFold (s.take p)).2 ++ (s.drop p).take k)
  | 0, _, _ => by simp
  | k + 1, hk, h => by
    have ih := wRun (s := s) (p := p) k (by omega) (fun j c hj => h j c (by omega))
    have hx : s[p + k]? = some (s[p + k]'(by omega)) := List.getElem?_eq_getElem (by omega)
    have hb := h k _ (by omega) hx
    rw [show p + (k + 1) = (p + k) + 1 by omega, take_snocL hx, wFold_snoc, ih]
    unfold wStep
    rw [hb]
    have hd : (s.drop p)[k]? = some (s[p + k]'(by omega)) := by rw [List.getElem?_drop]; exact hx
    rw [take_snocL hd, List.append_assoc]
    rfl
theorem seg_ne {s : List UInt8} {a q : Nat} (h : a < q) (hq : q ≤ s.length) : (segW s a q).isEmpty = false := by
  unfold segW
  rw [Bool.eq_false_iff]
  intro he
  have := List.isEmpty_iff.1 he
  have hl := congrArg List.length this
  rw [List.length_take, List.length_drop] at hl
  simp at hl
  omega
def wordOf (s : List UInt8) (st : Option Nat) (p : Nat) : List UInt8 := match st with | none => [] | some a => segW s a p
/-- A rune that stands at p: one byte of ASCII, or bytes none of which is a blank. -/
theorem rune_at {b : ByteArray} {s : List UInt8} (h : StrIsL b s) {p : Nat} (hp : p < s.length) :
    (∃ c, s[p]? = some c ∧ pB (Utf8.decode b p).1 = blankB c ∧ (Utf8.decode b p).2 = 1) ∨
    (pB (Utf8.decode b p).1 = false ∧ 1 ≤ (Utf8.decode b p).2 ∧ p + (Utf8.decode b p).2 ≤ s.length ∧ ∀ j c, j < (Utf8.decode b p).2 → s[p + j]? = some c → blankB c = false) := by
  have hd := Lib.decode_N b p
  rw [h.data] at hd
  have hx : s[p]? = some (s[p]'hp) := List.getElem?_eq_getElem hp
  have h0 : s.getD p 0 = s[p]'hp := by rw [List.getD_eq_getElem?_getD, hx]; rfl
  by_cases ha : (s[p]'hp).toNat < 128
  · left
    refine ⟨_, hx, ?_, ?_⟩
    · rw [hd, h0, Lib.decodeN_ascii _ _ _ _ _ ha]; exact pB_byte _
    · rw [hd, h0, Lib.decodeN_ascii _ _ _ _ _ ha]
  · right
    have hw1 := Lib.decodeN_ge1 (s.length - p) (s.getD p 0).toNat (s.getD (p + 1) 0).toNat (s.getD (p + 2) 0).toNat (s.getD (p + 3) 0).toNat
    have hw2 := Lib.decodeN_width_le (s.length - p) (s.getD p 0).toNat (s.getD (p + 1) 0).toNat (s.getD (p + 2) 0).toNat (s.getD (p + 3) 0).toNat (by omega)
    obtain ⟨k1, k2, k3, k4⟩ := Lib.decodeN_conts (s.length - p) (s.getD p 0).toNat (s.getD (p + 1) 0).toNat (s.getD (p + 2) 0).toNat (s.getD (p + 3) 0).toNat
    have hsh := Lib.decodeN_shape (s.length - p) (s.getD p 0).toNat (s.getD (p + 1) 0).toNat (s.getD (p + 2) 0).toNat (s.getD (p + 3) 0).toNat
    rw [← hd] at hw1 hw2 k1 k2 k3 k4 hsh
    refine ⟨?_, hw1, by omega, ?_⟩
    · have hr : 128 ≤ (Utf8.decode b p).1 := by
        rw [h0] at hsh
        rcases hsh with ⟨h1, _⟩ | ⟨_, _, _, h1, e⟩ | ⟨_, _, _, _, h1, _, e⟩ | ⟨_, _, _, _, _, h1, _, e⟩ | e
        · omega
        all_goals (rw [e]; simp only; omega)
      unfold pB
      have a1 : ((Utf8.decode b p).1 == 32) = false := by simp; omega
      have a2 : ((Utf8.decode b p).1 == 9) = false := by simp; omega
      rw [a1, a2]; rfl
    · intro j c hj hc
      have hbig : 64 ≤ c.toNat := by
        have hg : s.getD (p + j) 0 = c := by rw [List.getD_eq_getElem?_getD, hc]; rfl
        have hj4 : j = 0 ∨ j = 1 ∨ j = 2 ∨ j = 3 := by omega
        rcases hj4 with rfl | rfl | rfl | rfl
        · rw [Nat.add_zero, hx] at hc
          injection hc with hc
          rw [← hc]; omega
        · have := (k1 (by omega)).1; rw [hg] at this; omega
        · have := (k2 (by omega)).1; rw [hg] at this; omega
        · have := (k3 (by omega)).1; rw [hg] at this; omega
      unfold blankB
      have a1 : (c == 32) = false := by
        apply beq_eq_false_iff_ne.2
        intro e; rw [e] at hbig; exact absurd hbig (by decide)
      have a2 : (c == 9) = false := by
        apply beq_eq_false_iff_ne.2
        intro e; rw [e] at hbig; exact absurd hbig (by decide)
      rw [a1, a2]; rfl
theorem spans_words {b : ByteArray} {s : List UInt8} (h : StrIsL b s) : ∀ (f p : Nat) (st : Option Nat) (acc : List (Nat × Nat)), p ≤ s.length → s.length - p ≤ f →
    wFold (s.take p) = (acc.map fun x => segW s x.1 x.2, wordOf s st p) → (∀ a, st = some a → a < p) →
    (Lib.closeSpans b (Lib.spansFromP pB b f p st acc)).map (fun x => segW s x.1 x.2) = wordsL s := by
  intro f
  induction f with
  | zero =>
    intro p st acc hp hf hw hst
    obtain rfl : p = s.length := by omega
    rw [List.take_length] at hw
    unfold wordsL wEnd
    rw [hw]
    cases st with
    | none => rfl
    | some a =>
      have := seg_ne (hst a rfl) (Nat.le_refl s.length)
      simp only [wordOf, this, Lib.spansFromP, Lib.closeSpans, List.map_append, List.map_cons, List.map_nil, Bool.false_eq_true, if_false]
      rw [h.size]
  | succ f ih =>
    intro p st acc hp hf hw hst
    unfold Lib.spansFromP
    by_cases hlt : p < b.size
    · rw [if_pos hlt]
      have hlt' : p < s.length := by rw [← h.size]; exact hlt
      rcases rune_at h hlt' with ⟨c, hc, hpb, hk⟩ | ⟨hpb, hk1, hk2, hk3⟩
      · rw [hk, hpb]
        have hsn := take_snocL hc
        cases hbc : blankB c with
        | true =>
          simp only [if_true]
          cases st with
          | none =>
            refine ih _ _ _ (by omega) (by omega) ?_ (fun a ha => by cases ha)
            rw [hsn, wFold_snoc, hw]
            unfold wStep
            rw [hbc]
            rfl
          | some a =>
            refine ih _ _ _ (by omega) (by omega) ?_ (fun a ha => by cases ha)
            rw [hsn, wFold_snoc, hw]
            unfold wStep
            rw [hbc]
            have := seg_ne (hst a rfl) hp
            simp only [wordOf, this, if_true, Bool.false_eq_true, if_false, List.map_append, List.map_cons, List.map_nil]
        | false =>
          simp only [Bool.false_eq_true, if_false]
          have hr := wRun (s := s) (p := p) 1 (by omega) (fun j d hj hd => by
            obtain rfl : j = 0 := by omega
            rw [Nat.add_zero, hc] at hd
            injection hd with hd
            rw [← hd]; exact hbc)
          cases st with
          | none =>
            refine ih _ _ _ (by omega) (by omega) ?_ (fun a ha => by injection ha with ha; omega)
            rw [hr, hw]
            simp only [wordOf, List.nil_append]
            unfold segW
            rw [show p + 1 - p = 1 by omega]
          | some a =>
            refine ih _ _ _ (by omega) (by omega) ?_ (fun a' ha => by injection ha with ha; have := hst a rfl; omega)
            rw [hr, hw]
            simp only [wordOf]
            rw [segW_app (by have := hst a rfl; omega)]
      · rw [hpb]
        simp only [Bool.false_eq_true, if_false]
        have hr := wRun (s := s) (p := p) _ hk2 hk3
        generalize (Utf8.decode b p).2 = k at *
        cases st with
        | none =>
          refine ih _ _ _ hk2 (by omega) ?_ (fun a ha => by injection ha with ha; omega)
          rw [hr, hw]
          simp only [wordOf, List.nil_append]
          unfold segW
          rw [show p + k - p = k by omega]
        | some a =>
          refine ih _ _ _ hk2 (by omega) ?_ (fun a' ha => by injection ha with ha; have := hst a rfl; omega)
          rw [hr, hw]
          simp only [wordOf]
          rw [segW_app (by have := hst a rfl; omega)]
    · rw [if_neg hlt]
      obtain rfl : p = s.length := by have := h.size; omega
      rw [List.take_length] at hw
      unfold wordsL wEnd
      rw [hw]
      cases st with
      | none => rfl
      | some a =>
        have := seg_ne (hst a rfl) (Nat.le_refl s.length)
        simp only [wordOf, this, Lib.closeSpans, List.map_append, List.map_cons, List.map_nil, Bool.false_eq_true, if_false]
        rw [h.size]
theorem fields_words {b : ByteArray} {s : List UInt8} (h : StrIsL b s) : Lib.goFieldsP pB b = (wordsL s).map fun x => (⟨x.toArray⟩ : ByteArray) := by
  have hs := spans_words h b.size 0 none [] (Nat.zero_le _) (by rw [h.size]; omega) rfl (fun a ha => by cases ha)
  unfold Lib.goFieldsP Lib.spansOfP
  rw [← hs, List.map_map]
  apply List.map_congr_left
  intro x _
  have h1 := Lib.extract_data b x.1 x.2
  rw [h.data] at h1
  show b.extract x.1 x.2 = ⟨(segW s x.1 x.2).toArray⟩
  calc b.extract x.1 x.2 = ⟨(b.extract x.1 x.2).data.toList.toArray⟩ := rfl
    _ = _ := by rw [h1]; rfl
end Go.Proofs.YtbgcbigplegpmaaDoor
