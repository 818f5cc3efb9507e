/- Some of the proof's texts, merged; each one's own words stand ahead of it. -/
import Derived.Test.YtoandhhkmkgmaaaGreatDoorMg6
import Derived.Lib.FieldsP
import Derived.Lib.SpaceUEq
import Derived.Lib.TrimUEq
import Derived.Lib.MapLaws
import Derived.Lib.TrimU
import Derived.Lib.QuoteLoop
import Derived.Test.YtoandhhkmkgmaaaGreatDoorOwn
import Derived.Test.YtoandhhkmkgmaaaGreatDoorMg8
/- Words of a line, in plain Lean: the pieces that the library's FieldsFunc tells, rune by rune, are those between blanks, byte by byte. No program in sight. -/
namespace Go.Proofs.YtoandhhkmkgmaaaGreatDoor

def wStep (x : List (List UInt8) × List UInt8) (c : UInt8) : List (List UInt8) × List UInt8 := if blankB c then (if x.2.isEmpty then x else (x.1 ++ [x.2], [])) else (x.1, x.2 ++ [c])
def wFold (s : List UInt8) : List (List UInt8) × List UInt8 := s.foldl wStep ([], [])
def wEnd (x : List (List UInt8) × List UInt8) : List (List UInt8) := if x.2.isEmpty then x.1 else x.1 ++ [x.2]
def wordsL (s : List UInt8) : List (List UInt8) := wEnd (wFold s)
theorem wFold_snoc (s : List UInt8) (c : UInt8) : wFold (s ++ [c]) = wStep (wFold s) c := by unfold wFold; rw [List.foldl_append]; rfl
def pB (r : Nat) : Bool := r == 32 || r == 9
theorem pB_byte (c : UInt8) : pB c.toNat = blankB c := by
  unfold pB blankB
  rw [Bool.eq_iff_iff]
  simp only [Bool.or_eq_true, beq_iff_eq]
  constructor
  · rintro (h | h)
    · left; exact UInt8.toNat_inj.1 h
    · right; exact UInt8.toNat_inj.1 h
  · rintro (h | h) <;> rw [h] <;> simp
def segW (s : List UInt8) (a q : Nat) : List UInt8 := (s.drop a).take (q - a)
theorem segW_app {s : List UInt8} {a p k : Nat} (h : a ≤ p) : segW s a p ++ (s.drop p).take k = segW s a (p + k) := by
  unfold segW
  rw [show p + k - a = (p - a) + k by omega, List.take_add, List.drop_drop, show a + (p - a) = p by omega]
theorem wRun {s : List UInt8} {p : Nat} : ∀ k, p + k ≤ s.length → (∀ j c, j < k → s[p + j]? = some c → blankB c = false) → wFold (s.take (p + k)) = ((wFold (s.take p)).1, (wFold (s.take p)).2 ++ (s.drop p).take k)
  | 0, _, _ => by simp
  | k + 1, hk, h => by
    have ih := wRun (s := s) (p := p) k (by omega) (fun j c hj => h j c (by omega))
    have hx : s[p + k]? = some (s[p + k]'(by omega)) := List.getElem?_eq_getElem (by omega)
    have hb := h k _ (by omega) hx
    rw [show p + (k + 1) = (p + k) + 1 by omega, take_snocL hx, wFold_snoc, ih]
    unfold wStep
    rw [hb]
    have hd : (s.drop p)[k]? = some (s[p + k]'(by omega)) := by rw [List.getElem?_drop]; exact hx
    rw [take_snocL hd, List.append_assoc]
    rfl
theorem seg_ne {s : List UInt8} {a q : Nat} (h : a < q) (hq : q ≤ s.length) : (segW s a q).isEmpty = false := by
  unfold segW
  rw [Bool.eq_false_iff]
  intro he
  have := List.isEmpty_iff.1 he
  have hl := congrArg List.length this
  rw [List.length_take, List.length_drop] at hl
  simp at hl
  omega
def wordOf (s : List UInt8) (st : Option Nat) (p : Nat) : List UInt8 := match st with | none => [] | some a => segW s a p
/-- A rune that stands at p: one byte of ASCII, or bytes none of which is a blank. -/
theorem rune_at {b : ByteArray} {s : List UInt8} (h : StrIsL b s) {p : Nat} (hp : p < s.length) :
    (∃ c, s[p]? = some c ∧ pB (Utf8.decode b p).1 = blankB c ∧ (Utf8.decode b p).2 = 1) ∨
    (pB (Utf8.decode b p).1 = false ∧ 1 ≤ (Utf8.decode b p).2 ∧ p + (Utf8.decode b p).2 ≤ s.length ∧ ∀ j c, j < (Utf8.decode b p).2 → s[p + j]? = some c → blankB c = false) := by
  have hd := Lib.decode_N b p
  rw [h.data] at hd
  have hx : s[p]? = some (s[p]'hp) := List.getElem?_eq_getElem hp
  have h0 : s.getD p 0 = s[p]'hp := by rw [List.getD_eq_getElem?_getD, hx]; rfl
  by_cases ha : (s[p]'hp).toNat < 128
  · left
    refine ⟨_, hx, ?_, ?_⟩
    · rw [hd, h0, Lib.decodeN_ascii _ _ _ _ _ ha]; exact pB_byte _
    · rw [hd, h0, Lib.decodeN_ascii _ _ _ _ _ ha]
  · right
    have hw1 := Lib.decodeN_ge1 (s.length - p) (s.getD p 0).toNat (s.getD (p + 1) 0).toNat (s.getD (p + 2) 0).toNat (s.getD (p + 3) 0).toNat
    have hw2 := Lib.decodeN_width_le (s.length - p) (s.getD p 0).toNat (s.getD (p + 1) 0).toNat (s.getD (p + 2) 0).toNat (s.getD (p + 3) 0).toNat (by omega)
    obtain ⟨k1, k2, k3, k4⟩ := Lib.decodeN_conts (s.length - p) (s.getD p 0).toNat (s.getD (p + 1) 0).toNat (s.getD (p + 2) 0).toNat (s.getD (p + 3) 0).toNat
    have hsh := Lib.decodeN_shape (s.length - p) (s.getD p 0).toNat (s.getD (p + 1) 0).toNat (s.getD (p + 2) 0).toNat (s.getD (p + 3) 0).toNat
    rw [← hd] at hw1 hw2 k1 k2 k3 k4 hsh
    refine ⟨?_, hw1, by omega, ?_⟩
    · have hr : 128 ≤ (Utf8.decode b p).1 := by
        rw [h0] at hsh
        rcases hsh with ⟨h1, _⟩ | ⟨_, _, _, h1, e⟩ | ⟨_, _, _, _, h1, _, e⟩ | ⟨_, _, _, _, _, h1, _, e⟩ | e
        · omega
        all_goals (rw [e]; simp only; omega)
      unfold pB
      have a1 : ((Utf8.decode b p).1 == 32) = false := by simp; omega
      have a2 : ((Utf8.decode b p).1 == 9) = false := by simp; omega
      rw [a1, a2]; rfl
    · intro j c hj hc
      have hbig : 64 ≤ c.toNat := by
        have hg : s.getD (p + j) 0 = c := by rw [List.getD_eq_getElem?_getD, hc]; rfl
        have hj4 : j = 0 ∨ j = 1 ∨ j = 2 ∨ j = 3 := by omega
        rcases hj4 with rfl | rfl | rfl | rfl
        · rw [Nat.add_zero, hx] at hc
          injection hc with hc
          rw [← hc]; omega
        · have := (k1 (by omega)).1; rw [hg] at this; omega
        · have := (k2 (by omega)).1; rw [hg] at this; omega
        · have := (k3 (by omega)).1; rw [hg] at this; omega
      unfold blankB
      have a1 : (c == 32) = false := by
        apply beq_eq_false_iff_ne.2
        intro e; rw [e] at hbig; exact absurd hbig (by decide)
      have a2 : (c == 9) = false := by
        apply beq_eq_false_iff_ne.2
        intro e; rw [e] at hbig; exact absurd hbig (by decide)
      rw [a1, a2]; rfl
theorem spans_words {b : ByteArray} {s : List UInt8} (h : StrIsL b s) : ∀ (f p : Nat) (st : Option Nat) (acc : List (Nat × Nat)), p ≤ s.length → s.length - p ≤ f →
    wFold (s.take p) = (acc.map fun x => segW s x.1 x.2, wordOf s st p) → (∀ a, st = some a → a < p) →
    (Lib.closeSpans b (Lib.spansFromP pB b f p st acc)).map (fun x => segW s x.1 x.2) = wordsL s := by
  intro f
  induction f with
  | zero =>
    intro p st acc hp hf hw hst
    obtain rfl : p = s.length := by omega
    rw [List.take_length] at hw
    unfold wordsL wEnd
    rw [hw]
    cases st with
    | none => rfl
    | some a =>
      have := seg_ne (hst a rfl) (Nat.le_refl s.length)
      simp only [wordOf, this, Lib.spansFromP, Lib.closeSpans, List.map_append, List.map_cons, List.map_nil, Bool.false_eq_true, if_false]
      rw [h.size]
  | succ f ih =>
    intro p st acc hp hf hw hst
    unfold Lib.spansFromP
    by_cases hlt : p < b.size
    · rw [if_pos hlt]
      have hlt' : p < s.length := by rw [← h.size]; exact hlt
      rcases rune_at h hlt' with ⟨c, hc, hpb, hk⟩ | ⟨hpb, hk1, hk2, hk3⟩
      · rw [hk, hpb]
        have hsn := take_snocL hc
        cases hbc : blankB c with
        | true =>
          simp only [if_true]
          cases st with
          | none =>
            refine ih _ _ _ (by omega) (by omega) ?_ (fun a ha => by cases ha)
            rw [hsn, wFold_snoc, hw]
            unfold wStep
            rw [hbc]
            rfl
          | some a =>
            refine ih _ _ _ (by omega) (by omega) ?_ (fun a ha => by cases ha)
            rw [hsn, wFold_snoc, hw]
            unfold wStep
            rw [hbc]
            have := seg_ne (hst a rfl) hp
            simp only [wordOf, this, if_true, Bool.false_eq_true, if_false, List.map_append, List.map_cons, List.map_nil]
        | false =>
          simp only [Bool.false_eq_true, if_false]
          have hr := wRun (s := s) (p := p) 1 (by omega) (fun j d hj hd => by
            obtain rfl : j = 0 := by omega
            rw [Nat.add_zero, hc] at hd
            injection hd with hd
            rw [← hd]; exact hbc)
          cases st with
          | none =>
            refine ih _ _ _ (by omega) (by omega) ?_ (fun a ha => by injection ha with ha; omega)
            rw [hr, hw]
            simp only [wordOf, List.nil_append]
            unfold segW
            rw [show p + 1 - p = 1 by omega]
          | some a =>
            refine ih _ _ _ (by omega) (by omega) ?_ (fun a' ha => by injection ha with ha; have := hst a rfl; omega)
            rw [hr, hw]
            simp only [wordOf]
            rw [segW_app (by have := hst a rfl; omega)]
      · rw [hpb]
        simp only [Bool.false_eq_true, if_false]
        have hr := wRun (s := s) (p := p) _ hk2 hk3
        generalize (Utf8.decode b p).2 = k at *
        cases st with
        | none =>
          refine ih _ _ _ hk2 (by omega) ?_ (fun a ha => by injection ha with ha; omega)
          rw [hr, hw]
          simp only [wordOf, List.nil_append]
          unfold segW
          rw [show p + k - p = k by omega]
        | some a =>
          refine ih _ _ _ hk2 (by omega) ?_ (fun a' ha => by injection ha with ha; have := hst a rfl; omega)
          rw [hr, hw]
          simp only [wordOf]
          rw [segW_app (by have := hst a rfl; omega)]
    · rw [if_neg hlt]
      obtain rfl : p = s.length := by have := h.size; omega
      rw [List.take_length] at hw
      unfold wordsL wEnd
      rw [hw]
      cases st with
      | none => rfl
      | some a =>
        have := seg_ne (hst a rfl) (Nat.le_refl s.length)
        simp only [wordOf, this, Lib.closeSpans, List.map_append, List.map_cons, List.map_nil, Bool.false_eq_true, if_false]
        rw [h.size]
theorem fields_words {b : ByteArray} {s : List UInt8} (h : StrIsL b s) : Lib.goFieldsP pB b = (wordsL s).map fun x => (⟨x.toArray⟩ : ByteArray) := by
  have hs := spans_words h b.size 0 none [] (Nat.zero_le _) (by rw [h.size]; omega) rfl (fun a ha => by cases ha)
  unfold Lib.goFieldsP Lib.spansOfP
  rw [← hs, List.map_map]
  apply List.map_congr_left
  intro x _
  have h1 := Lib.extract_data b x.1 x.2
  rw [h.data] at h1
  show b.extract x.1 x.2 = ⟨(segW s x.1 x.2).toArray⟩
  calc b.extract x.1 x.2 = ⟨(b.extract x.1 x.2).data.toList.toArray⟩ := rfl
    _ = _ := by rw [h1]; rfl
end Go.Proofs.YtoandhhkmkgmaaaGreatDoor
/- Contracts: line.Words, line.Split; the reference's WordsOf. -/
namespace Go.Proofs.YtoandhhkmkgmaaaGreatDoor
open Go.RowKit

theorem elStrL : ElT Tryz.prog 22 9 (.string ⟨#[]⟩) 16 := ElT.mk' Tryz.underlying22 (by kernel_rfl) rfl
def svL (s : List UInt8) : Value := .string ⟨s.toArray⟩
set_option maxRecDepth 100000 in
theorem wordsP_any (x : Nat) (W : World) : Calls Tryz.prog 149 #[.int .i32 (x : Int)] W fun e w' => e = .returned (.bool (pB x)) ∧ w' = W := by
  by_cases h32 : x = 32
  · subst h32
    go_enter Tryz.func149, Tryz.ntmps149
    go_wp2_with fail
    go_ret
    exact ⟨rfl, rfl⟩
  · have k32 : ((x : Int) == 32) = false := by simp; omega
    by_cases h9 : x = 9
    · subst h9
      go_enter Tryz.func149, Tryz.ntmps149
      go_wp2_with fail
      go_ret
      exact ⟨rfl, rfl⟩
    · have k9 : ((x : Int) == 9) = false := by simp; omega
      have HB : Hid (pB x = false) := Lib.hid (by unfold pB; simp [h32, h9])
      clear h32 h9
      go_enter Tryz.func149, Tryz.ntmps149
      go_wp2_with fail
      go_ret
      exact ⟨by rw [HB.out]; rfl, rfl⟩
set_option maxRecDepth 100000 in
theorem lnWords_any (s : List UInt8) (hl : s.length ≤ 4294967296) (w : World) : Calls Tryz.prog 82 #[.string ⟨s.toArray⟩] w fun e w' => ∃ A, e = .returned (.slice (some ⟨A, 0, none⟩) (wordsL s).length (wordsL s).length) ∧ w'.ownsRow w.heap.size 9 1 (.slice (some ⟨A, 0, none⟩) (wordsL s).length (wordsL s).length) (wordsL s).length ((wordsL s).map svL) ∧ Below w.heap.size w w' := by
  have HF := Lib.hid (Tryz.strings_FieldsFunc_runes 149 #[] (enters_of Tryz.func149 (by kernel_rfl) rfl) pB ⟨s.toArray⟩ w hl (fun W x _ _ => (wordsP_any x W).mono fun e w' ⟨h1, h2⟩ => ⟨h1, 0, h2⟩))
  rw [fields_words (strIsL s), List.length_map, List.map_map] at HF
  generalize (⟨s.toArray⟩ : ByteArray) = b at *
  go_enter Tryz.func82, Tryz.ntmps82
  go_wp2_with fail
  refine HF.out.mono ?_
  rintro e w' ⟨A, rfl, _, hown, hb⟩
  have HO := Lib.hid hown
  have HB := Lib.hid hb
  clear hown hb
  go_wp2_with fail
  go_ret
  exact ⟨A, rfl, HO.out, HB.out⟩
def WordsPost (s : List UInt8) (w : World) (e : Ending) (w' : World) : Prop :=
  ∃ A c, e = .returned (.slice A (wordsL s).length c) ∧ w'.ownsRow w.heap.size 9 1 (.slice A (wordsL s).length c) (wordsL s).length ((wordsL s).map svL) ∧ Below w.heap.size w w'
theorem wFold_len (s : List UInt8) : ∀ i, (wFold (s.take i)).2.length ≤ i ∧ (wFold (s.take i)).1.length ≤ i
  | 0 => by simp [wFold]
  | i + 1 => by
    have ih := wFold_len s i
    by_cases hi : i < s.length
    · rw [take_snocL (List.getElem?_eq_getElem hi), wFold_snoc]
      unfold wStep
      split
      · split
        · omega
        · simp; omega
      · simp; omega
    · rw [List.take_of_length_le (by omega)] at ih ⊢
      omega
set_option maxRecDepth 100000 in
set_option maxHeartbeats 2000000 in
theorem rWordsOf_any (s : List UInt8) (hl : s.length ≤ 1048576) (w : World) : Calls Tryz.prog 93 #[.string ⟨s.toArray⟩] w (WordsPost s w) := by
  have HS := Lib.hid (strIsL s)
  generalize (⟨s.toArray⟩ : ByteArray) = b at *
  have hsz : b.size = s.length := HS.out.size
  have HSZ := Lib.hid hsz
  have hbs : b.size ≤ 1048576 := by omega
  clear hsz hl
  go_enter Tryz.func93, Tryz.ntmps93
  go_wp2_with fail
  go_loopw [3, 4, 9] (fun x y z wr => ∃ (i q c : Nat) (A : Option Addr) (X : List (List UInt8)) (U : List UInt8), x = .slice A q c ∧ y = .string ⟨U.toArray⟩ ∧ z = .int .i64 (i : Int) ∧ i ≤ b.size + 1 ∧ q ≤ i ∧ U.length ≤ i ∧ Hid (X.length = q) ∧ Hid (i ≤ b.size → wFold (s.take i) = (X, U)) ∧ Hid (i = b.size + 1 → X = wordsL s) ∧ Hid (wr.ownsRow w.heap.size 9 1 (.slice A q c) q (X.map svL)) ∧ Hid (Below w.heap.size w wr)) (fun _ _ z _ => b.size + 1 - (intOf z).toNat)
  case atStart => exact ⟨0, 0, 0, none, [], [], rfl, rfl, rfl, by omega, by omega, by simp, Lib.hid rfl, Lib.hid (fun _ => rfl), Lib.hid (fun h => by omega), Lib.hid (World.ownsRow_nil _ _ _ _), Lib.hid (Below.refl _ _)⟩
  case round =>
    obtain ⟨i, q, c, A, X, U, rfl, rfl, rfl, hi, hq, hU, HX, HW, HE, HO, HB⟩ := hrel
    have hzz : w.heap.size ≤ wr.heap.size := HB.out.size
    have hqn : (q + 1) * 16 ≤ 140737488355328 := by omega
    by_cases hlt : i < b.size
    · obtain ⟨d, hd⟩ : ∃ c, c = b[i] := ⟨_, rfl⟩
      have g0 : ∀ h, b[i]'h = d := fun _ => hd.symm
      have HC : Hid (s[i]? = some d) := Lib.hid (by rw [hd]; exact HS.out.at_ hlt)
      have hsg := ext_one HS.out HC.out
      have HF : Hid (wFold (s.take (i + 1)) = wStep (X, U) d) := Lib.hid (by rw [take_snocL HC.out, wFold_snoc, HW.out (by omega)])
      have i0 : (i : Int) < (b.size : Int) := by omega
      have i1 : (i : Int) < (b.size : Int) + 1 := by omega
      have i2 : (i : Int) + 1 ≤ (b.size : Int) := by omega
      have HNE : Hid (i + 1 = b.size + 1 → False) := Lib.hid (by omega)
      clear hd
      cases hb : blankB d with
      | true =>
        have HBL := Lib.hid (fun W => rBlank_is d W hb)
        by_cases hUe : U = []
        · subst hUe
          have HF2 : Hid (wFold (s.take (i + 1)) = (X, [])) := Lib.hid (by rw [HF.out]; unfold wStep; rw [hb]; rfl)
          clear hb
          go_wp2_with fail
          refine (HBL.out _).mono ?_
          rintro e w2 ⟨rfl, rfl⟩
          go_wp2_with fail
          exact ⟨⟨i + 1, q, c, A, X, [], rfl, rfl, rfl, by omega, by omega, by simp, HX, Lib.hid (fun _ => HF2.out), Lib.hid (fun h => (HNE.out h).elim), HO, HB⟩, by simp only [intOf]; omega⟩
        · have HF2 : Hid (wFold (s.take (i + 1)) = (X ++ [U], [])) := Lib.hid (by
            rw [HF.out]; unfold wStep; rw [hb]
            have : U.isEmpty = false := by cases U with
              | nil => exact absurd rfl hUe
              | cons a l => rfl
            simp [this])
          have HD : Hid ((⟨U.toArray⟩ : ByteArray).toList.isEmpty = false) := Lib.hid (by rw [Lib.toList_data]; cases U with
            | nil => exact absurd rfl hUe
            | cons a l => rfl)
          have HSU := Lib.hid (show Value.string ⟨U.toArray⟩ = svL U from rfl)
          generalize (⟨U.toArray⟩ : ByteArray) = bu at *
          have hd2 := HD.out
          clear hb hUe
          go_wp2_with fail
          refine (HBL.out _).mono ?_
          rintro e w2 ⟨rfl, rfl⟩
          go_wp2_with (at_builtin; refine wpList_push elStrL wr _ _ w.heap.size A q c _ (.string bu) HO.out rfl hzz hqn (by omega) rfl rfl rfl rfl ?_; intro A' c' w5 hown5 hb5)
          exact ⟨⟨i + 1, q + 1, c', A', X ++ [U], [], rfl, rfl, rfl, by omega, by omega, by simp, Lib.hid (by simp [HX.out]), Lib.hid (fun _ => HF2.out), Lib.hid (fun h => (HNE.out h).elim), Lib.hid (by rw [List.map_append, List.map_cons, List.map_nil, ← HSU.out]; exact hown5), Lib.hid (HB.out.trans hb5)⟩, by simp only [intOf]; omega⟩
      | false =>
        have HBL := Lib.hid (fun W => rBlank_is d W hb)
        have HF2 : Hid (wFold (s.take (i + 1)) = (X, U ++ [d])) := Lib.hid (by rw [HF.out]; unfold wStep; rw [hb]; rfl)
        have hcat := Lib.hid (show (⟨U.toArray⟩ : ByteArray) ++ ⟨#[d]⟩ = ⟨(U ++ [d]).toArray⟩ from cat_bytesL U [d])
        have hus : (⟨U.toArray⟩ : ByteArray).size ≤ 1048577 := by show U.length ≤ _; omega
        generalize (⟨U.toArray⟩ : ByteArray) = bu at *
        clear hb
        go_wp2_with fail
        refine (HBL.out _).mono ?_
        rintro e w2 ⟨rfl, rfl⟩
        go_wp2_with fail
        exact ⟨⟨i + 1, q, c, A, X, U ++ [d], rfl, congrArg Value.string hcat.out, rfl, by omega, by omega, by simp; omega, HX, Lib.hid (fun _ => HF2.out), Lib.hid (fun h => (HNE.out h).elim), HO, HB⟩, by simp only [intOf]; omega⟩
    · by_cases hie : i = b.size
      · subst hie
        have HWE : Hid (wordsL s = wEnd (X, U)) := Lib.hid (by
          have h := HW.out (Nat.le_refl _)
          rw [List.take_of_length_le (by rw [HSZ.out]; exact Nat.le_refl _)] at h
          unfold wordsL
          rw [h])
        have i0 : ¬ ((b.size : Int) < (b.size : Int)) := by omega
        have i1 : (b.size : Int) < (b.size : Int) + 1 := by omega
        by_cases hUe : U = []
        · subst hUe
          have HXE : Hid (X = wordsL s) := Lib.hid (by rw [HWE.out]; rfl)
          go_wp2_with fail
          exact ⟨⟨b.size + 1, q, c, A, X, [], rfl, rfl, rfl, by omega, by omega, by simp, HX, Lib.hid (fun h => by omega), Lib.hid (fun _ => HXE.out), HO, HB⟩, by simp only [intOf]; omega⟩
        · have HXE : Hid (X ++ [U] = wordsL s) := Lib.hid (by
            rw [HWE.out]; unfold wEnd
            have : U.isEmpty = false := by cases U with
              | nil => exact absurd rfl hUe
              | cons a l => rfl
            simp [this])
          have HD : Hid ((⟨U.toArray⟩ : ByteArray).toList.isEmpty = false) := Lib.hid (by rw [Lib.toList_data]; cases U with
            | nil => exact absurd rfl hUe
            | cons a l => rfl)
          have HSU := Lib.hid (show Value.string ⟨U.toArray⟩ = svL U from rfl)
          generalize (⟨U.toArray⟩ : ByteArray) = bu at *
          have hd2 := HD.out
          clear hUe
          go_wp2_with (at_builtin; refine wpList_push elStrL wr _ _ w.heap.size A q c _ (.string bu) HO.out rfl hzz hqn (by omega) rfl rfl rfl rfl ?_; intro A' c' w5 hown5 hb5)
          exact ⟨⟨b.size + 1, q + 1, c', A', X ++ [U], [], rfl, rfl, rfl, by omega, by omega, by simp, Lib.hid (by simp [HX.out]), Lib.hid (fun h => by omega), Lib.hid (fun _ => HXE.out), Lib.hid (by rw [List.map_append, List.map_cons, List.map_nil, ← HSU.out]; exact hown5), Lib.hid (HB.out.trans hb5)⟩, by simp only [intOf]; omega⟩
      · have hi2 : i = b.size + 1 := by omega
        have HXE : Hid (X = wordsL s) := Lib.hid (HE.out hi2)
        have HQE : Hid ((wordsL s).length = q) := Lib.hid (by rw [← HXE.out]; exact HX.out)
        have i1 : (b.size : Int) + 1 ≤ (i : Int) := by omega
        clear hi2 hie hlt
        go_wp2_with fail
        go_ret
        refine ⟨A, c, by rw [HQE.out]; rfl, ?_, HB.out⟩
        rw [HQE.out, ← HXE.out]
        exact HO.out
end Go.Proofs.YtoandhhkmkgmaaaGreatDoor
/- Contract: the reference's Split; the lines that it tells. -/
namespace Go.Proofs.YtoandhhkmkgmaaaGreatDoor
open Go.RowKit

def spStep (c : UInt8) (x : List (List UInt8) × List UInt8) (d : UInt8) : List (List UInt8) × List UInt8 := if d = c then (x.1 ++ [x.2], []) else (x.1, x.2 ++ [d])
def spF (c : UInt8) (s : List UInt8) : List (List UInt8) × List UInt8 := s.foldl (spStep c) ([], [])
theorem spF_snoc (c : UInt8) (s : List UInt8) (d : UInt8) : spF c (s ++ [d]) = spStep c (spF c s) d := by unfold spF; rw [List.foldl_append]; rfl
def spEnd (x : List (List UInt8) × List UInt8) : List (List UInt8) := if x.2 = [] then x.1 else x.1 ++ [x.2]
theorem spF_lines : ∀ (s : List UInt8) (X : List (List UInt8)) (U : List UInt8), spEnd (s.foldl (spStep 10) (X, U)) = X ++ (if U ++ s = [] then [] else (U ++ frontN s) :: linesN (backN s))
  | [], X, U => by
    unfold spEnd
    simp only [List.foldl_nil, List.append_nil]
    by_cases hU : U = []
    · simp [hU]
    · simp [hU, frontN, backN, linesN_nil]
  | d :: t, X, U => by
    rw [List.foldl_cons]
    by_cases h : d = 10
    · subst h
      have e : spStep 10 (X, U) 10 = (X ++ [U], []) := by unfold spStep; rw [if_pos rfl]
      rw [e, spF_lines t (X ++ [U]) []]
      have hf : frontN (10 :: t) = [] := by rw [frontN, if_pos rfl]
      have hb : backN (10 :: t) = t := by rw [backN, if_pos rfl]
      rw [hf, hb, if_neg (by simp : ¬ U ++ 10 :: t = [])]
      by_cases ht : t = []
      · subst ht
        simp [linesN_nil]
      · rw [if_neg (by simpa using ht), linesN_cons ht]
        simp
    · have e : spStep 10 (X, U) d = (X, U ++ [d]) := by unfold spStep; rw [if_neg h]
      rw [e, spF_lines t X (U ++ [d])]
      have hf : frontN (d :: t) = d :: frontN t := by rw [frontN, if_neg h]
      have hb : backN (d :: t) = backN t := by rw [backN, if_neg h]
      rw [hf, hb, if_neg (by simp), if_neg (by simp)]
      simp
theorem lines_sp (s : List UInt8) : spEnd (spF 10 s) = linesN s := by
  unfold spF
  rw [spF_lines s [] []]
  by_cases h : s = []
  · subst h; simp [linesN_nil]
  · rw [linesN_cons h, if_neg (by simpa using h)]
    simp
/-- An owned row's last cell, read and written. -/
theorem own_last {w : World} {B n c : Nat} {A : Option Addr} {X : List (List UInt8)} {U : List UInt8} (h : w.ownsRow B 9 1 (.slice A (n + 1) c) (n + 1) ((X ++ [U]).map svL)) (hX : X.length = n) :
    ∃ g, A = some ⟨g, 0, none⟩ ∧ B ≤ g ∧ w.cell? ⟨g, n, none⟩ = some (svL U) ∧ w.frozen? ⟨g, n, none⟩ = false ∧
      ∀ V : List UInt8, (w.setCell ⟨g, n, none⟩ (svL V)).ownsRow B 9 1 (.slice (some ⟨g, 0, none⟩) (n + 1) c) (n + 1) ((X ++ [V]).map svL) := by
  obtain ⟨hl, h2⟩ := h
  rcases h2 with ⟨_, h0⟩ | ⟨g, cap, cur, hv, hg, hh, hnc, hcm, hsz, ht⟩
  · omega
  · injection hv with hA _ hc
    subst hA hc
    have hn1 : n < cur.size := by omega
    have hx : (cur.toList.take ((n + 1) * 1))[n]? = some (svL U) := by
      rw [ht, List.getElem?_map, List.getElem?_append_right (by omega), hX, Nat.sub_self]
      rfl
    rw [List.getElem?_take, if_pos (by omega)] at hx
    have hx' : cur[n]? = some (svL U) := by rw [Array.getElem?_toList] at hx; exact hx
    refine ⟨g, rfl, hg, by simp [World.cell?, hh, hx'], by simp [World.frozen?, hh], fun V => ⟨by simp [hX], .inr ⟨g, c, cur.set n (svL V) hn1, rfl, hg, ?_, hnc, hcm, by simp [hsz], ?_⟩⟩⟩
    · rw [heap_setCell_same w g n cur 9 (svL V) hh]
      congr 2
      rw [Array.setIfInBounds_def, dif_pos hn1]
    · rw [Array.toList_set, List.take_set, ht]
      rw [List.map_append, List.map_append, List.set_append_right _ _ (by simp; omega)]
      simp [hX]
def SpPost (c : UInt8) (s : List UInt8) (w : World) (e : Ending) (w' : World) : Prop :=
  ∃ g k X U, spF c s = (X, U) ∧ e = .returned (.slice (some ⟨g, 0, none⟩) (X.length + 1) k) ∧ w'.ownsRow w.heap.size 9 1 (.slice (some ⟨g, 0, none⟩) (X.length + 1) k) (X.length + 1) ((X ++ [U]).map svL) ∧ X.length ≤ s.length ∧ Below w.heap.size w w'
theorem own_one (w : World) : (w.alloc (.cells #[.string ⟨#[]⟩] 9)).ownsRow w.heap.size 9 1 (.slice (some ⟨w.heap.size, 0, none⟩) 1 1) 1 (([] ++ [[]] : List (List UInt8)).map svL) :=
  ⟨rfl, .inr ⟨w.heap.size, 1, #[.string ⟨#[]⟩], rfl, Nat.le_refl _, heap_alloc_new w _, Nat.le_refl _, by unfold maxLen; decide, rfl, rfl⟩⟩
set_option maxRecDepth 100000 in
set_option maxHeartbeats 2000000 in
theorem rSplit_any (s : List UInt8) (c : UInt8) (hl : s.length ≤ 1048576) (w : World) : Calls Tryz.prog 62 #[.string ⟨s.toArray⟩, .int .u8 (c.toNat : Int)] w (SpPost c s w) := by
  have HS := Lib.hid (strIsL s)
  generalize (⟨s.toArray⟩ : ByteArray) = b at *
  have hsz : b.size = s.length := HS.out.size
  have HSZ := Lib.hid hsz
  have hbs : b.size ≤ 1048576 := by omega
  have HOW := Lib.hid (own_one w)
  have HBW := Lib.hid (Below.alloc (Below.refl w.heap.size w) (Nat.le_refl _) (.cells #[.string ⟨#[]⟩] 9))
  clear hsz hl
  go_enter Tryz.func62, Tryz.ntmps62
  go_upto_region 2 with fail
  generalize w.alloc (.cells #[.string ⟨#[]⟩] 9) = w1 at *
  go_wp2_with fail
  go_loopw [5, 10] (fun x y wr => ∃ (i q k g : Nat) (X : List (List UInt8)) (U : List UInt8), x = .slice (some ⟨g, 0, none⟩) (q + 1) k ∧ y = .int .i64 (i : Int) ∧ i ≤ b.size ∧ q ≤ i ∧ U.length ≤ i ∧ Hid (X.length = q) ∧ Hid (spF c (s.take i) = (X, U)) ∧ Hid (wr.ownsRow w.heap.size 9 1 (.slice (some ⟨g, 0, none⟩) (q + 1) k) (q + 1) ((X ++ [U]).map svL)) ∧ Hid (Below w.heap.size w wr)) (fun _ y _ => b.size - (intOf y).toNat)
  case atStart => exact ⟨0, 0, 1, w.heap.size, [], [], rfl, rfl, by omega, by omega, by simp, Lib.hid rfl, Lib.hid rfl, HOW, HBW⟩
  case round =>
    obtain ⟨i, q, k, g, X, U, rfl, rfl, hi, hq, hU, HX, HF, HO, HB⟩ := hrel
    by_cases hlt : i < b.size
    · obtain ⟨d, hd⟩ : ∃ c, c = b[i] := ⟨_, rfl⟩
      have g0 : ∀ h, b[i]'h = d := fun _ => hd.symm
      have HC : Hid (s[i]? = some d) := Lib.hid (by rw [hd]; exact HS.out.at_ hlt)
      have hsg := ext_one HS.out HC.out
      have HF2 : Hid (spF c (s.take (i + 1)) = spStep c (X, U) d) := Lib.hid (by rw [take_snocL HC.out, spF_snoc, HF.out])
      have i0 : (i : Int) < (b.size : Int) := by omega
      have i1 : (i : Int) + 1 ≤ (b.size : Int) := by omega
      have i2 : 0 ≤ (i : Int) := by omega
      have i3 : 0 ≤ (i : Int) + 1 := by omega
      have hzz : w.heap.size ≤ wr.heap.size := HB.out.size
      clear hd
      by_cases hdc : d = c
      · have kd : ((d.toNat : Int) == (c.toNat : Int)) = true := by rw [hdc]; simp
        have HF3 : Hid (spF c (s.take (i + 1)) = (X ++ [U], [])) := Lib.hid (by rw [HF2.out]; unfold spStep; rw [if_pos hdc])
        have hqn : (q + 1 + 1) * 16 ≤ 140737488355328 := by omega
        clear hdc
        go_wp2_with (at_builtin; refine wpList_push elStrL wr _ _ w.heap.size (some ⟨g, 0, none⟩) (q + 1) k _ (.string ⟨#[]⟩) HO.out rfl hzz hqn (by omega) rfl rfl rfl rfl ?_; intro A' c' w5 hown5 hb5)
        have HO5 : Hid (w5.ownsRow w.heap.size 9 1 (.slice A' (q + 1 + 1) c') (q + 1 + 1) (((X ++ [U]) ++ [[]]).map svL)) := Lib.hid (by rw [List.map_append (l₂ := [[]])]; exact hown5)
        obtain ⟨g5, rfl⟩ : ∃ g5, A' = some ⟨g5, 0, none⟩ := by
          obtain ⟨g5, h, _⟩ := own_last HO5.out (by simp [HX.out])
          exact ⟨g5, h⟩
        exact ⟨⟨i + 1, q + 1, c', g5, X ++ [U], [], rfl, rfl, by omega, by omega, by simp, Lib.hid (by simp [HX.out]), HF3, HO5, Lib.hid (HB.out.trans hb5)⟩, measL hlt⟩
      · have kd : ((d.toNat : Int) == (c.toNat : Int)) = false := eqK hdc
        have HF3 : Hid (spF c (s.take (i + 1)) = (X, U ++ [d])) := Lib.hid (by rw [HF2.out]; unfold spStep; rw [if_neg hdc])
        obtain ⟨g', hg', hgB, hcl, hfz, hset⟩ := own_last HO.out HX.out
        injection hg' with hg'
        injection hg' with hg' _ _
        subst hg'
        have HSET := Lib.hid (hset (U ++ [d]))
        have hcat := Lib.hid (show (⟨U.toArray⟩ : ByteArray) ++ ⟨#[d]⟩ = ⟨(U ++ [d]).toArray⟩ from cat_bytesL U [d])
        have hus : (⟨U.toArray⟩ : ByteArray).size ≤ 1048577 := by show U.length ≤ _; omega
        have HBS := Lib.hid (HB.out.setCell (p := ⟨g, q, none⟩) hgB (svL (U ++ [d])))
        have hw1 : IntKind.i64.wrap (((q : Int) + 1) - 1) = (q : Int) := by rw [IntKind.wrap_i64]; omega
        have hw2 : IntKind.i64.wrap ((i : Int) + 1) = (i : Int) + 1 := by rw [IntKind.wrap_i64]; omega
        have hq1 : (q : Int) < (q : Int) + 1 := by omega
        have hq0 : 0 ≤ (q : Int) := by omega
        unfold svL at hcl HSET HBS
        generalize hbU : (⟨U.toArray⟩ : ByteArray) = bU at *
        rw [← hcat.out] at HSET HBS
        clear hdc hset hbU
        go_wp2_with fail
        go_region
        go_wp2_with fail
        exact ⟨⟨i + 1, q, k, g, X, U ++ [d], rfl, rfl, by omega, by omega, by simp; omega, HX, HF3, Lib.hid HSET.out, Lib.hid (Below.drew HBS.out)⟩, measL hlt⟩
    · obtain rfl : i = b.size := by omega
      have HFE : Hid (spF c s = (X, U)) := Lib.hid (by have h := HF.out; rwa [List.take_of_length_le (by rw [HSZ.out]; exact Nat.le_refl _)] at h)
      go_wp2_with fail
      go_ret
      refine ⟨g, k, X, U, HFE.out, by rw [HX.out]; rfl, by rw [HX.out]; exact HO.out, by rw [HX.out, ← HSZ.out]; exact hq, HB.out⟩
end Go.Proofs.YtoandhhkmkgmaaaGreatDoor
/- Contract: the reference's LinesOf. -/
namespace Go.Proofs.YtoandhhkmkgmaaaGreatDoor
open Go.RowKit

def totL (ls : List (List UInt8)) : Nat := (ls.map fun l => l.length + 1).sum
theorem totL_lines : ∀ (n : Nat) (s : List UInt8), s.length ≤ n → totL (linesN s) ≤ s.length + 1 := by
  intro n
  induction n with
  | zero =>
    intro s hn
    obtain rfl : s = [] := List.length_eq_zero_iff.1 (by omega)
    rw [linesN_nil]; simp [totL]
  | succ n ih =>
    intro s hn
    by_cases h : s = []
    · subst h; rw [linesN_nil]; simp [totL]
    · rw [linesN_cons h]
      have h1 := backN_len s h
      have h2 := ih (backN s) (by omega)
      have e : totL (frontN s :: linesN (backN s)) = (frontN s).length + 1 + totL (linesN (backN s)) := by simp [totL]
      rw [e]
      rcases index_nl s with ⟨_, a, b⟩ | ⟨i, a0, a, b⟩
      · rw [a, b, linesN_nil]
        simp [totL]
      · have hi : i < s.length := by
          rcases Nat.lt_or_ge i s.length with h' | h'
          · exact h'
          · have := Lib.index_room s [10] (by omega)
            rw [a0] at this
            simp at this
            omega
        rw [a, List.length_take]
        rw [b, List.length_drop] at h2
        rw [b]
        omega
theorem totL_at {ls : List (List UInt8)} {j : Nat} {l : List UInt8} (h : ls[j]? = some l) : totL (ls.drop j) = l.length + 1 + totL (ls.drop (j + 1)) := by
  obtain ⟨hj, hx⟩ := List.getElem?_eq_some_iff.1 h
  rw [List.drop_eq_getElem_cons hj, hx]
  simp [totL]
theorem totL_drop (ls : List (List UInt8)) (j : Nat) : totL (ls.drop j) ≤ totL ls := by
  induction ls generalizing j with
  | nil => simp
  | cons l ls ih =>
    cases j with
    | zero => exact Nat.le_refl _
    | succ j =>
      have e : totL (l :: ls) = l.length + 1 + totL ls := by simp [totL]
      have := ih j
      rw [List.drop_succ_cons, e]
      omega
theorem measJ {n i j : Nat} (h : i ≤ j) (hj : j < n) : n - (intOf (.int .i64 ((j : Int) + 1))).toNat < n - (intOf (.int .i64 (i : Int))).toNat := by
  have h1 : (intOf (.int .i64 ((j : Int) + 1))).toNat = j + 1 := by show ((j : Int) + 1).toNat = j + 1; omega
  have h2 : (intOf (.int .i64 (i : Int))).toNat = i := by show (i : Int).toNat = i; omega
  rw [h1, h2]
  omega
theorem ownL_base {w : World} {B B' : Nat} {e : TypeId} {sz : Nat} {v : Value} {n : Nat} {xs : List Value} (h : w.ownsRow B e sz v n xs) (hB : B' ≤ B) : w.ownsRow B' e sz v n xs := by
  refine ⟨h.1, ?_⟩
  rcases h.2 with h' | ⟨g, cap, cur, h1, h2, h3⟩
  · exact .inl h'
  · exact .inr ⟨g, cap, cur, h1, Nat.le_trans hB h2, h3⟩
theorem totL_len (ls : List (List UInt8)) : ls.length ≤ totL ls := by
  induction ls with
  | nil => exact Nat.le_refl _
  | cons l ls ih =>
    have e : totL (l :: ls) = l.length + 1 + totL ls := by simp [totL]
    rw [e, List.length_cons]
    omega
theorem drop_consL {ls : List (List UInt8)} {j : Nat} {l : List UInt8} (h : ls[j]? = some l) : ls.drop j = l :: ls.drop (j + 1) := by
  obtain ⟨hj, hx⟩ := List.getElem?_eq_some_iff.1 h
  rw [List.drop_eq_getElem_cons hj, hx]
theorem Rd.line {w : World} {A : Option Addr} {l : List (List UInt8)} (h : Rd w A (l.map svL)) {k : Nat} {x : List UInt8} (hk : l[k]? = some x) : ∃ b off, A = some ⟨b, off, none⟩ ∧ w.cell? ⟨b, off + k, none⟩ = some (.string ⟨x.toArray⟩) := by
  obtain ⟨b, off, hA, _, hc⟩ := h (by rw [List.length_map]; have := (List.getElem?_eq_some_iff.1 hk).1; omega)
  exact ⟨b, off, hA, hc k _ (by rw [List.getElem?_map, hk]; rfl)⟩
theorem Rd.takeL {w : World} {A : Option Addr} {xs : List Value} (h : Rd w A xs) (n : Nat) : Rd w A (xs.take n) := by
  intro hn
  obtain ⟨b, off, hA, hb, hc⟩ := h (by rw [List.length_take] at hn; omega)
  refine ⟨b, off, hA, hb, fun j u hu => hc j u ?_⟩
  rw [List.getElem?_take] at hu
  split at hu
  · exact hu
  · cases hu
set_option maxRecDepth 100000 in
set_option maxHeartbeats 4000000 in
theorem rLinesOf_any (s : List UInt8) (w : World) (hl : s.length ≤ 9223372036854775807) :
    Calls Tryz.prog 118 #[.string ⟨s.toArray⟩] w (JoPost s w) := by
  have hsz0 : (⟨s.toArray⟩ : ByteArray).size = s.length := rfl
  by_cases hb : 20000 < s.length
  · have HE : Hid (lnE s = 2) := Lib.hid (by unfold lnE; rw [if_pos hb])
    generalize (⟨s.toArray⟩ : ByteArray) = b at *
    have h2 : 20000 < b.size := by omega
    clear hsz0 hb hl
    go_enter Tryz.func118, Tryz.ntmps118
    go_wp2_with fail
    go_ret2
    exact ⟨Below.refl _ _, .inl ⟨by rw [HE.out]; decide, by rw [HE.out]; rfl⟩⟩
  · have HSP := Lib.hid (rSplit_any s 10 (by omega))
    have HNB := Lib.hid hb
    have HS := Lib.hid (strIsL s)
    generalize (⟨s.toArray⟩ : ByteArray) = b at *
    have HSZ := Lib.hid HS.out.size
    have hbs : b.size ≤ 20000 := by omega
    clear hsz0 hb hl
    go_enter Tryz.func118, Tryz.ntmps118
    go_wp2_with fail
    go_loop [15] (fun x => ∃ i : Nat, x = .int .i64 (i : Int) ∧ i ≤ b.size ∧ Hid ((s.take i).any badB = false)) (fun x => b.size - (intOf x).toNat)
    case atStart => exact ⟨0, rfl, by omega, Lib.hid rfl⟩
    case round =>
      obtain ⟨i, rfl, hi, HA⟩ := hrel
      by_cases hlt : i < b.size
      · obtain ⟨d, hd⟩ : ∃ c, c = b[i] := ⟨_, rfl⟩
        have g0 : ∀ h, b[i]'h = d := fun _ => hd.symm
        have HC : Hid (s[i]? = some d) := Lib.hid (by rw [hd]; exact HS.out.at_ hlt)
        have i0 : (i : Int) < (b.size : Int) := by omega
        have hcs := badB_cases d
        have HT := Lib.hid (take_snocL HC.out)
        clear hd
        rcases hcs with ⟨hb, h1⟩ | ⟨hb, h1, h2, h3, h4⟩ | ⟨hb, h1⟩ | ⟨hb, h1⟩ | ⟨hb, h1, h2⟩
        · have HY : Hid (lnE s = 3) := Lib.hid (by unfold lnE; rw [if_neg HNB.out, if_pos (List.any_eq_true.2 ⟨_, List.mem_of_getElem? HC.out, hb⟩)])
          clear hb
          go_wp2_with fail
          go_ret2
          exact ⟨Below.refl _ _, .inl ⟨by rw [HY.out]; decide, by rw [HY.out]; rfl⟩⟩
        · have HY : Hid (lnE s = 3) := Lib.hid (by unfold lnE; rw [if_neg HNB.out, if_pos (List.any_eq_true.2 ⟨_, List.mem_of_getElem? HC.out, hb⟩)])
          have k9 : ((d.toNat : Int) != 9) = true := neK h3
          have k10 : ((d.toNat : Int) != 10) = true := neK h4
          clear hb h3 h4
          go_wp2_with fail
          go_ret2
          exact ⟨Below.refl _ _, .inl ⟨by rw [HY.out]; decide, by rw [HY.out]; rfl⟩⟩
        all_goals
          have HA2 : Hid ((s.take (i + 1)).any badB = false) := Lib.hid (by rw [HT.out, List.any_append, HA.out]; simp [hb])
          clear hb
        · subst h1
          go_wp2_with fail
          exact ⟨⟨i + 1, rfl, by omega, HA2⟩, measL hlt⟩
        · subst h1
          go_wp2_with fail
          exact ⟨⟨i + 1, rfl, by omega, HA2⟩, measL hlt⟩
        · have l1 : ¬ 126 < d.toNat := by omega
          have l2 : ¬ d.toNat < 32 := by omega
          clear h1 h2
          go_wp2_with fail
          exact ⟨⟨i + 1, rfl, by omega, HA2⟩, measL hlt⟩
      · have hie : i = b.size := by omega
        subst hie
        have HE : Hid (lnE s = 0) := Lib.hid (by
          have h := HA.out
          rw [List.take_of_length_le (by rw [HSZ.out]; exact Nat.le_refl _)] at h
          unfold lnE
          rw [if_neg HNB.out, h]
          rfl)
        go_wp2_with fail
        refine (HSP.out _).mono ?_
        rintro e w1 ⟨g, kc, X, U, hsp, rfl, hown, hXl, hb1⟩
        have HLN : Hid (linesN s = spEnd (X, U)) := Lib.hid (by rw [← lines_sp, hsp])
        obtain ⟨g', hg', _, hcl, _, _⟩ := own_last hown rfl
        injection hg' with hg'
        injection hg' with hg' _ _
        subst hg'
        have HRX := Lib.hid (Rd.of_own hown)
        have HB1 := Lib.hid hb1
        have hxl : X.length ≤ 20000 := by have := HSZ.out; omega
        have hkc : X.length + 1 ≤ kc := by
          rcases hown.2 with ⟨_, h0⟩ | ⟨_, cap, _, hv, _, _, hnc, _⟩
          · omega
          · injection hv with _ _ hc; subst hc; exact hnc
        clear hsp hown hb1 hXl
        unfold svL at hcl
        by_cases hU : U = []
        · subst hU
          have HLX : Hid (linesN s = X) := Lib.hid (by rw [HLN.out]; rfl)
          have HRL : Hid (Rd w1 (some ⟨g, 0, none⟩) ((linesN s).map svL)) := Lib.hid (by
            have h := HRX.out.takeL X.length
            rw [HLX.out]
            rw [List.map_append, List.take_left' (by simp)] at h
            exact h)
          have HNL : Hid ((linesN s).length = X.length) := Lib.hid (by rw [HLX.out])
          have hq1 : (X.length : Int) < (X.length : Int) + 1 := by omega
          go_upto_region 12 with fail
          have HCELL : Hid (∀ j x, (linesN s)[j]? = some x → ∀ W, Below w1.heap.size w1 W → W.cell? ⟨g, j, none⟩ = some (.string ⟨x.toArray⟩)) := Lib.hid (by
            intro j x hx W hW
            obtain ⟨b', off, hA, hc⟩ := HRL.out.line hx
            have hlt := lt_of_cell' hc
            injection hA with hA
            injection hA with hA1 hA2 _
            subst hA1 hA2
            rw [Nat.zero_add] at hc
            exact (hW.cell (p := ⟨_, j, none⟩) hlt).trans hc)
          have HTOT : Hid (totL (linesN s) ≤ 20001) := Lib.hid (by have h := totL_lines _ s (Nat.le_refl _); have h2 := HSZ.out; omega)
          clear hcl HRX HRL
          have hkc2 : X.length ≤ 20001 := by omega
          generalize hls : linesN s = ls at *
          have HLS := Lib.hid hls
          clear hls
          go_wp2_with fail
          go_loopw [6, 7] (fun x y wr => ∃ (L : List (Nat × List UInt8)) (A : Option Addr) (n c i : Nat), x = .slice A n c ∧ y = .int .i64 (i : Int) ∧ i ≤ X.length ∧ n ≤ i ∧ Hid (L.length = n) ∧ Hid (joinL 0 ls = L ++ joinL i (ls.drop i)) ∧ Hid (wr.ownsRow w1.heap.size 175 2 (.slice A n c) n (lnV L)) ∧ Hid (Below w1.heap.size w1 wr)) (fun _ y _ => X.length - (intOf y).toNat)
          case atStart => exact ⟨[], none, 0, 0, 0, rfl, rfl, by omega, Nat.le_refl _, Lib.hid rfl, Lib.hid rfl, Lib.hid (World.ownsRow_nil _ _ _ _), Lib.hid (Below.refl _ _)⟩
          case round =>
            obtain ⟨L, A, n, c, i, rfl, rfl, hi, hni, HL, HJ, HO, HB⟩ := hrel
            by_cases hlt : i < X.length
            · have hltI : (i : Int) < (X.length : Int) := by omega
              obtain ⟨l, hl⟩ : ∃ l, ls[i]? = some l := ⟨_, List.getElem?_eq_getElem (by rw [HNL.out]; exact hlt)⟩
              have HLL := Lib.hid hl
              have hca := HCELL.out i l hl wr HB.out
              have HBK0 := Lib.hid (show Blk (wr.alloc (.cells #[.int .i64 ((i : Int) + 1), .string ⟨l.toArray⟩] 175)) wr.heap.size 175 [.int .i64 ((i : Int) + 1), .string ⟨l.toArray⟩] from Blk.new wr _ _)
              have HB0 := Lib.hid (below_newL (Below.refl wr.heap.size wr) (Below.alloc (Below.refl _ _) (Nat.le_refl _) (.cells #[.int .i64 ((i : Int) + 1), .string ⟨l.toArray⟩] 175)))
              clear hl
              go_upto_region 17 with fail
              generalize wr.alloc (.cells #[.int .i64 ((i : Int) + 1), .string ⟨l.toArray⟩] 175) = wb at *
              obtain ⟨wo, hwo⟩ : ∃ wo : World, wo = wr := ⟨_, rfl⟩
              subst hwo
              go_loopw [7] (fun x wi => ∃ (T : List UInt8) (j : Nat), x = .int .i64 (j : Int) ∧ i ≤ j ∧ j < X.length ∧ T.length ≤ 20001 ∧ Hid (Blk wi wo.heap.size 175 [.int .i64 ((i : Int) + 1), .string ⟨T.toArray⟩]) ∧ Hid (Below wo.heap.size wo wi) ∧ Hid (contL l (ls.drop (i + 1)) = contL T (ls.drop (j + 1)) ∧ T.length + totL (ls.drop (j + 1)) ≤ 20001)) (fun x _ => X.length - (intOf x).toNat)
              case atStart => exact ⟨l, i, rfl, Nat.le_refl _, hlt, by have h1 := totL_at HLL.out; have h2 := totL_drop ls i; have h3 := HTOT.out; omega, HBK0, HB0, Lib.hid ⟨rfl, by have h1 := totL_at HLL.out; have h2 := totL_drop ls i; have h3 := HTOT.out; omega⟩⟩
              case round =>
                obtain ⟨T, j, rfl, hij, hj, hT, HBK, HBW, HQ⟩ := hrel
                have hc0 := HBK.out.cell (j := 0) rfl
                have hc1 := HBK.out.cell (j := 1) rfl
                by_cases h0 : T = []
                · have hte : T.isEmpty = true := by rw [h0]; rfl
                  have HEX : Hid (contL l (ls.drop (i + 1)) = (T, ls.drop (j + 1))) := Lib.hid (by rw [HQ.out.1, contL_end (by rw [h0]; rfl)])
                  clear h0
                  have HSC := Lib.hid (rAside_any T (by omega) wr)
                  go_wp2_with fail
                  refine HSC.out.mono ?_
                  rintro e w9 ⟨rfl, rfl⟩
                  have hf1 := HBK.out.free 1
                  have HK10 := Lib.hid (HBK.out.same 1 (.string ⟨(asideL T).toArray⟩))
                  have HB10 := Lib.hid (HBW.out.setCell (p := ⟨wo.heap.size, 1, none⟩) (Nat.le_refl _) (.string ⟨(asideL T).toArray⟩))
                  go_upto_region 26 with fail
                  generalize wr.setCell ⟨wo.heap.size, 1, none⟩ (.string ⟨(asideL T).toArray⟩) = w10 at *
                  clear hc0 hc1 hf1
                  have HO10 := Lib.hid (own_belowL HO.out HB10.out)
                  have HBB := Lib.hid (below_newL HB.out HB10.out)
                  have hzz := HBB.out.size
                  have hc0 := HK10.out.cell (j := 0) rfl
                  have hc1 := HK10.out.cell (j := 1) rfl
                  have HJ2 : Hid (joinL 0 ls = L ++ ((if asideL T = [] then [] else [(i + 1, asideL T)]) ++ joinL (j + 1) (ls.drop (j + 1)))) := Lib.hid (by
                    have e : i + 1 + ((ls.drop (i + 1)).length - (ls.drop (j + 1)).length) = j + 1 := by rw [List.length_drop, List.length_drop, HNL.out]; omega
                    rw [HJ.out, drop_consL HLL.out, joinL_cons, HEX.out, e])
                  by_cases ha : asideL T = []
                  · have hae : (asideL T).isEmpty = true := by rw [ha]; rfl
                    have HJ3 : Hid (joinL 0 ls = L ++ joinL (j + 1) (ls.drop (j + 1))) := Lib.hid (by rw [HJ2.out, if_pos ha]; rfl)
                    clear ha
                    go_wp2_with fail
                    exact ⟨⟨L, A, n, c, j + 1, rfl, rfl, by omega, by omega, HL, HJ3, HO10, HBB⟩, measJ hij hj⟩
                  · have hae : (asideL T).isEmpty = false := by cases hq : asideL T with
                      | nil => exact absurd hq ha
                      | cons a l => rfl
                    have HJ3 : Hid (joinL 0 ls = (L ++ [(i + 1, asideL T)]) ++ joinL (j + 1) (ls.drop (j + 1))) := Lib.hid (by rw [HJ2.out, if_neg ha, List.append_assoc])
                    have hn24 : (n + 1) * 24 ≤ 140737488355328 := by omega
                    clear ha
                    go_wp2_with (at_builtin; refine wpList_pushLn w10 _ _ w1.heap.size A n c L (i + 1, asideL T) _ rfl HO10.out hzz hn24 rfl rfl rfl rfl ?_; intro g5 c5 w5 hown5 hb5)
                    exact ⟨⟨L ++ [(i + 1, asideL T)], some ⟨g5, 0, none⟩, n + 1, c5, j + 1, rfl, rfl, by omega, by omega, Lib.hid (by simp [HL.out]), HJ3, Lib.hid hown5, Lib.hid (HBB.out.trans hb5)⟩, measJ hij hj⟩
                · obtain ⟨u, d, rfl⟩ := snoc_of h0
                  have HS1 := Lib.hid (strIsL (u ++ [d]))
                  have hsz : (⟨(u ++ [d]).toArray⟩ : ByteArray).size = u.length + 1 := by rw [HS1.out.size]; simp
                  have hul : u.length ≤ 20000 := by simp at hT; omega
                  have HD : Hid ((⟨(u ++ [d]).toArray⟩ : ByteArray).toList.isEmpty = false) := Lib.hid (by rw [Lib.toList_data]; simp)
                  have hsl := ext_takeL HS1.out u.length
                  rw [List.take_left' rfl] at hsl
                  have HDB : Hid ((u ++ [d]).isEmpty = false) := Lib.hid (by simp)
                  clear h0
                  by_cases hd : d = 92
                  · subst hd
                    have HE2 : Hid (endsB (u ++ [92]) = true) := Lib.hid (by unfold endsB; simp)
                    have hus : (⟨u.toArray⟩ : ByteArray).size = u.length := rfl
                    clear HDB
                    generalize (⟨(u ++ [92]).toArray⟩ : ByteArray) = bu at *
                    generalize hbs : (⟨u.toArray⟩ : ByteArray) = bs at *
                    have HBS := Lib.hid hbs
                    clear hbs
                    have g1 : ∀ h, bu[u.length]'h = 92 := fun h => last_at HS1.out h
                    have e1 : (bu.size : Int) - 1 = (u.length : Int) := by omega
                    have l1 : (u.length : Int) < (bu.size : Int) := by omega
                    have l2 : u.length < bu.size := by omega
                    have l3 : u.length ≤ bu.size := by omega
                    have he := HD.out
                    have hf1 := HBK.out.free 1
                    have HK8 := Lib.hid (HBK.out.same 1 (.string bs))
                    have HB8 := Lib.hid (HBW.out.setCell (p := ⟨wo.heap.size, 1, none⟩) (Nat.le_refl _) (.string bs))
                    go_upto_region 19 with fail
                    generalize wr.setCell ⟨wo.heap.size, 1, none⟩ (.string bs) = w8 at *
                    clear hc0 hc1 hf1 g1 hsl
                    have hc0 := HK8.out.cell (j := 0) rfl
                    have hc1 := HK8.out.cell (j := 1) rfl
                    have HBK := HK8
                    have HBW := HB8
                    by_cases hend : j + 1 = X.length
                    · have HEX : Hid (contL l (ls.drop (i + 1)) = (u, ls.drop (j + 1))) := Lib.hid (by
                        rw [HQ.out.1, List.drop_eq_nil_of_le (by rw [HNL.out]; omega), contL, HE2.out, if_pos rfl, List.dropLast_concat])
                      have hendI : ((j : Int) + 1 == ((X.length : Int))) = true := by simp; omega
                      have HSC := Lib.hid (rAside_any u (by omega) w8)
                      rw [HBS.out] at HSC
                      go_wp2_with fail
                      refine HSC.out.mono ?_
                      rintro e w9 ⟨rfl, rfl⟩
                      have hf1 := HBK.out.free 1
                      have HK10 := Lib.hid (HBK.out.same 1 (.string ⟨(asideL u).toArray⟩))
                      have HB10 := Lib.hid (HBW.out.setCell (p := ⟨wo.heap.size, 1, none⟩) (Nat.le_refl _) (.string ⟨(asideL u).toArray⟩))
                      go_upto_region 26 with fail
                      generalize w8.setCell ⟨wo.heap.size, 1, none⟩ (.string ⟨(asideL u).toArray⟩) = w10 at *
                      clear hc0 hc1 hf1
                      have HO10 := Lib.hid (own_belowL HO.out HB10.out)
                      have HBB := Lib.hid (below_newL HB.out HB10.out)
                      have hzz := HBB.out.size
                      have hc0 := HK10.out.cell (j := 0) rfl
                      have hc1 := HK10.out.cell (j := 1) rfl
                      have HJ2 : Hid (joinL 0 ls = L ++ ((if asideL u = [] then [] else [(i + 1, asideL u)]) ++ joinL (j + 1) (ls.drop (j + 1)))) := Lib.hid (by
                        have e : i + 1 + ((ls.drop (i + 1)).length - (ls.drop (j + 1)).length) = j + 1 := by rw [List.length_drop, List.length_drop, HNL.out]; omega
                        rw [HJ.out, drop_consL HLL.out, joinL_cons, HEX.out, e])
                      by_cases ha : asideL u = []
                      · have hae : (asideL u).isEmpty = true := by rw [ha]; rfl
                        have HJ3 : Hid (joinL 0 ls = L ++ joinL (j + 1) (ls.drop (j + 1))) := Lib.hid (by rw [HJ2.out, if_pos ha]; rfl)
                        clear ha
                        go_wp2_with fail
                        exact ⟨⟨L, A, n, c, j + 1, rfl, rfl, by omega, by omega, HL, HJ3, HO10, HBB⟩, measJ hij hj⟩
                      · have hae : (asideL u).isEmpty = false := by cases hq : asideL u with
                          | nil => exact absurd hq ha
                          | cons a l => rfl
                        have HJ3 : Hid (joinL 0 ls = (L ++ [(i + 1, asideL u)]) ++ joinL (j + 1) (ls.drop (j + 1))) := Lib.hid (by rw [HJ2.out, if_neg ha, List.append_assoc])
                        have hn24 : (n + 1) * 24 ≤ 140737488355328 := by omega
                        clear ha
                        go_wp2_with (at_builtin; refine wpList_pushLn w10 _ _ w1.heap.size A n c L (i + 1, asideL u) _ rfl HO10.out hzz hn24 rfl rfl rfl rfl ?_; intro g5 c5 w5 hown5 hb5)
                        exact ⟨⟨L ++ [(i + 1, asideL u)], some ⟨g5, 0, none⟩, n + 1, c5, j + 1, rfl, rfl, by omega, by omega, Lib.hid (by simp [HL.out]), HJ3, Lib.hid hown5, Lib.hid (HBB.out.trans hb5)⟩, measJ hij hj⟩
                    · have hlt2 : j + 1 < X.length := by omega
                      have hlt2I : (j : Int) + 1 < (X.length : Int) := by omega
                      have hendI : ((j : Int) + 1 == ((X.length : Int))) = false := by simp; omega
                      obtain ⟨l2, hl2⟩ : ∃ l2, ls[j + 1]? = some l2 := ⟨_, List.getElem?_eq_getElem (by rw [HNL.out]; exact hlt2)⟩
                      have HDR := Lib.hid (drop_consL hl2)
                      have HTA := Lib.hid (totL_at hl2)
                      have hll2 : l2.length + u.length ≤ 20001 := by
                        have h1 := HTA.out
                        have h2 := HQ.out.2
                        simp only [List.length_append, List.length_singleton] at h2
                        omega
                      have hf1 := HK8.out.free 1
                      have hca2 := HCELL.out (j + 1) l2 hl2 w8 (below_newL HB.out HBW.out)
                      have HQ3 : Hid (contL l (ls.drop (i + 1)) = contL (u ++ [32] ++ trimLL l2) (ls.drop (j + 1 + 1)) ∧ (u ++ [32] ++ trimLL l2).length + totL (ls.drop (j + 1 + 1)) ≤ 20001) := Lib.hid (by
                        have h1 := HTA.out
                        have h2 := HQ.out.2
                        have h3 := trimLL_le l2
                        rw [HQ.out.1, HDR.out, contL, HE2.out, if_pos rfl, List.dropLast_concat]
                        refine ⟨rfl, ?_⟩
                        simp only [List.length_append, List.length_singleton] at h2 ⊢
                        omega)
                      have hl4 : (u ++ [32] ++ trimLL l2).length ≤ 20001 := by have := HQ3.out.2; omega
                      clear hl2
                      go_wp2_with fail
                      go_loop [9] (fun x => ∃ t : List UInt8, x = .string ⟨t.toArray⟩ ∧ t.length ≤ l2.length ∧ Hid (trimLL l2 = trimLL t)) (fun x => strLenL x)
                      case atStart => exact ⟨l2, rfl, Nat.le_refl _, Lib.hid rfl⟩
                      case round =>
                        obtain ⟨t, rfl, ht, HT⟩ := hrel
                        cases t with
                        | nil =>
                          have HTE : Hid (trimLL l2 = []) := Lib.hid (by rw [HT.out]; rfl)
                          have HCA : Hid (bs ++ ((⟨#[32]⟩ : ByteArray) ++ ⟨#[]⟩) = ⟨(u ++ [32] ++ trimLL l2).toArray⟩) := Lib.hid (by
                            have e1 := cat_bytesL [32] []
                            have e2 := cat_bytesL u ([32] ++ [])
                            rw [HTE.out, ← HBS.out, List.append_assoc]
                            exact (congrArg ((⟨u.toArray⟩ : ByteArray) ++ ·) e1).trans e2)
                          go_upto_region 24 with fail
                          have HK9 := Lib.hid (HBK.out.same 1 (.string (bs ++ (⟨#[32]⟩ ++ ⟨#[]⟩))))
                          have HB9 := Lib.hid (HBW.out.setCell (p := ⟨wo.heap.size, 1, none⟩) (Nat.le_refl _) (.string (bs ++ (⟨#[32]⟩ ++ ⟨#[]⟩))))
                          have HK10 : Hid (Blk (w8.setCell ⟨wo.heap.size, 1, none⟩ (.string (bs ++ (⟨#[32]⟩ ++ ⟨#[]⟩)))) wo.heap.size 175 [.int .i64 ((i : Int) + 1), .string ⟨(u ++ [32] ++ trimLL l2).toArray⟩]) := Lib.hid (by
                            have h := HK9.out
                            generalize w8.setCell ⟨wo.heap.size, 1, none⟩ (.string (bs ++ (⟨#[32]⟩ ++ ⟨#[]⟩))) = wz at h ⊢
                            rw [HCA.out] at h
                            exact h)
                          clear HK9
                          go_wp2_with fail
                          exact ⟨⟨u ++ [32] ++ trimLL l2, j + 1, rfl, by omega, hlt2, hl4, HK10, HB9, HQ3⟩, measJ (Nat.le_refl j) hj⟩
                        | cons c2 t' =>
                          have g0 : ∀ h, (⟨(c2 :: t').toArray⟩ : ByteArray)[0]'h = c2 := fun _ => rfl
                          have hsl2 := ext_tail c2 t'
                          cases hb : blankB c2 with
                          | true =>
                            have HBL := Lib.hid (fun W => rBlank_is c2 W hb)
                            have HT2 : Hid (trimLL l2 = trimLL t') := Lib.hid (by rw [HT.out, trimLL_cons, hb]; rfl)
                            have hl3 : t'.length + 1 ≤ l2.length := by simpa using ht
                            clear hb ht
                            go_wp2_with fail
                            refine (HBL.out _).mono ?_
                            rintro e w2 ⟨rfl, rfl⟩
                            go_wp2_with fail
                            exact ⟨⟨t', rfl, by omega, HT2⟩, Nat.lt_succ_self _⟩
                          | false =>
                            have HBL := Lib.hid (fun W => rBlank_is c2 W hb)
                            have HTE : Hid (trimLL l2 = c2 :: t') := Lib.hid (by rw [HT.out, trimLL_cons, hb]; rfl)
                            have HCA : Hid (bs ++ ((⟨#[32]⟩ : ByteArray) ++ ⟨(c2 :: t').toArray⟩) = ⟨(u ++ [32] ++ trimLL l2).toArray⟩) := Lib.hid (by
                              have e1 := cat_bytesL [32] (c2 :: t')
                              have e2 := cat_bytesL u ([32] ++ (c2 :: t'))
                              rw [HTE.out, ← HBS.out, List.append_assoc]
                              exact (congrArg ((⟨u.toArray⟩ : ByteArray) ++ ·) e1).trans e2)
                            have hbt : (⟨(c2 :: t').toArray⟩ : ByteArray).size ≤ 20001 := by show (c2 :: t').length ≤ 20001; omega
                            clear hb
                            go_wp2_with fail
                            refine (HBL.out _).mono ?_
                            rintro e w2 ⟨rfl, rfl⟩
                            clear g0 hsl2
                            generalize (⟨(c2 :: t').toArray⟩ : ByteArray) = bt at *
                            have HK9 := Lib.hid (HBK.out.same 1 (.string (bs ++ (⟨#[32]⟩ ++ bt))))
                            have HB9 := Lib.hid (HBW.out.setCell (p := ⟨wo.heap.size, 1, none⟩) (Nat.le_refl _) (.string (bs ++ (⟨#[32]⟩ ++ bt))))
                            have HK10 : Hid (Blk (w8.setCell ⟨wo.heap.size, 1, none⟩ (.string (bs ++ (⟨#[32]⟩ ++ bt)))) wo.heap.size 175 [.int .i64 ((i : Int) + 1), .string ⟨(u ++ [32] ++ trimLL l2).toArray⟩]) := Lib.hid (by
                              have h := HK9.out
                              generalize w8.setCell ⟨wo.heap.size, 1, none⟩ (.string (bs ++ (⟨#[32]⟩ ++ bt))) = wz at h ⊢
                              rw [HCA.out] at h
                              exact h)
                            clear HK9
                            go_wp2_with fail
                            exact ⟨⟨u ++ [32] ++ trimLL l2, j + 1, rfl, by omega, hlt2, hl4, HK10, HB9, HQ3⟩, measJ (Nat.le_refl j) hj⟩
                  · have kd : ((d.toNat : Int) == 92) = false := eqK hd
                    have HEX : Hid (contL l (ls.drop (i + 1)) = (u ++ [d], ls.drop (j + 1))) := Lib.hid (by rw [HQ.out.1, contL_end (by unfold endsB; simp [hd])])
                    clear hd
                    have HBKo := HBK
                    have HSC := Lib.hid (rAside_any (u ++ [d]) (by omega) wr)
                    generalize (⟨(u ++ [d]).toArray⟩ : ByteArray) = bu at *
                    have g1 : ∀ h, bu[u.length]'h = d := fun h => last_at HS1.out h
                    have e1 : (bu.size : Int) - 1 = (u.length : Int) := by omega
                    have l1 : (u.length : Int) < (bu.size : Int) := by omega
                    have l2 : u.length < bu.size := by omega
                    have he := HD.out
                    have hq1 := HDB.out
                    go_wp2_with fail
                    refine HSC.out.mono ?_
                    rintro e w9 ⟨rfl, rfl⟩
                    have hf1 := HBK.out.free 1
                    have HK10 := Lib.hid (HBK.out.same 1 (.string ⟨(asideL (u ++ [d])).toArray⟩))
                    have HB10 := Lib.hid (HBW.out.setCell (p := ⟨wo.heap.size, 1, none⟩) (Nat.le_refl _) (.string ⟨(asideL (u ++ [d])).toArray⟩))
                    go_upto_region 26 with fail
                    generalize wr.setCell ⟨wo.heap.size, 1, none⟩ (.string ⟨(asideL (u ++ [d])).toArray⟩) = w10 at *
                    clear hc0 hc1 hf1
                    have HO10 := Lib.hid (own_belowL HO.out HB10.out)
                    have HBB := Lib.hid (below_newL HB.out HB10.out)
                    have hzz := HBB.out.size
                    have hc0 := HK10.out.cell (j := 0) rfl
                    have hc1 := HK10.out.cell (j := 1) rfl
                    have HJ2 : Hid (joinL 0 ls = L ++ ((if asideL (u ++ [d]) = [] then [] else [(i + 1, asideL (u ++ [d]))]) ++ joinL (j + 1) (ls.drop (j + 1)))) := Lib.hid (by
                      have e : i + 1 + ((ls.drop (i + 1)).length - (ls.drop (j + 1)).length) = j + 1 := by rw [List.length_drop, List.length_drop, HNL.out]; omega
                      rw [HJ.out, drop_consL HLL.out, joinL_cons, HEX.out, e])
                    by_cases ha : asideL (u ++ [d]) = []
                    · have hae : (asideL (u ++ [d])).isEmpty = true := by rw [ha]; rfl
                      have HJ3 : Hid (joinL 0 ls = L ++ joinL (j + 1) (ls.drop (j + 1))) := Lib.hid (by rw [HJ2.out, if_pos ha]; rfl)
                      clear ha
                      go_wp2_with fail
                      exact ⟨⟨L, A, n, c, j + 1, rfl, rfl, by omega, by omega, HL, HJ3, HO10, HBB⟩, measJ hij hj⟩
                    · have hae : (asideL (u ++ [d])).isEmpty = false := by cases hq : asideL (u ++ [d]) with
                        | nil => exact absurd hq ha
                        | cons a l => rfl
                      have HJ3 : Hid (joinL 0 ls = (L ++ [(i + 1, asideL (u ++ [d]))]) ++ joinL (j + 1) (ls.drop (j + 1))) := Lib.hid (by rw [HJ2.out, if_neg ha, List.append_assoc])
                      have hn24 : (n + 1) * 24 ≤ 140737488355328 := by omega
                      clear ha
                      go_wp2_with (at_builtin; refine wpList_pushLn w10 _ _ w1.heap.size A n c L (i + 1, asideL (u ++ [d])) _ rfl HO10.out hzz hn24 rfl rfl rfl rfl ?_; intro g5 c5 w5 hown5 hb5)
                      exact ⟨⟨L ++ [(i + 1, asideL (u ++ [d]))], some ⟨g5, 0, none⟩, n + 1, c5, j + 1, rfl, rfl, by omega, by omega, Lib.hid (by simp [HL.out]), HJ3, Lib.hid hown5, Lib.hid (HBB.out.trans hb5)⟩, measJ hij hj⟩
            · have hie : i = X.length := by omega
              subst hie
              have HJE : Hid (joinL 0 ls = L) := Lib.hid (by rw [HJ.out, List.drop_eq_nil_of_le (by rw [HNL.out]; exact Nat.le_refl _), joinL_nil, List.append_nil])
              go_wp2_with fail
              go_ret2
              exact ⟨(HB1.out.trans (HB.out.mono HB1.out.size)), .inr ⟨A, n, c, HE.out, by rw [HLS.out, HJE.out, HL.out], by rw [HLS.out, HJE.out]; exact ownL_base HO.out HB1.out.size, rfl⟩⟩
        · have HLX : Hid (linesN s = X ++ [U]) := Lib.hid (by rw [HLN.out]; unfold spEnd; rw [if_neg hU])
          have HNL : Hid ((linesN s).length = X.length + 1) := Lib.hid (by rw [HLX.out]; simp)
          have HRL : Hid (Rd w1 (some ⟨g, 0, none⟩) ((linesN s).map svL)) := Lib.hid (by rw [HLX.out]; exact HRX.out)
          have hue : U.isEmpty = false := by cases hq : U with
            | nil => exact absurd hq hU
            | cons a l => rfl
          clear hU
          go_upto_region 12 with fail
          have HCELL : Hid (∀ j x, (linesN s)[j]? = some x → ∀ W, Below w1.heap.size w1 W → W.cell? ⟨g, j, none⟩ = some (.string ⟨x.toArray⟩)) := Lib.hid (by
            intro j x hx W hW
            obtain ⟨b', off, hA, hc⟩ := HRL.out.line hx
            have hlt := lt_of_cell' hc
            injection hA with hA
            injection hA with hA1 hA2 _
            subst hA1 hA2
            rw [Nat.zero_add] at hc
            exact (hW.cell (p := ⟨_, j, none⟩) hlt).trans hc)
          have HTOT : Hid (totL (linesN s) ≤ 20001) := Lib.hid (by have h := totL_lines _ s (Nat.le_refl _); have h2 := HSZ.out; omega)
          clear hcl HRX HRL
          have hkc2 : (X.length + 1) ≤ 20001 := by omega
          generalize hls : linesN s = ls at *
          have HLS := Lib.hid hls
          clear hls
          go_wp2_with fail
          go_loopw [6, 7] (fun x y wr => ∃ (L : List (Nat × List UInt8)) (A : Option Addr) (n c i : Nat), x = .slice A n c ∧ y = .int .i64 (i : Int) ∧ i ≤ (X.length + 1) ∧ n ≤ i ∧ Hid (L.length = n) ∧ Hid (joinL 0 ls = L ++ joinL i (ls.drop i)) ∧ Hid (wr.ownsRow w1.heap.size 175 2 (.slice A n c) n (lnV L)) ∧ Hid (Below w1.heap.size w1 wr)) (fun _ y _ => (X.length + 1) - (intOf y).toNat)
          case atStart => exact ⟨[], none, 0, 0, 0, rfl, rfl, by omega, Nat.le_refl _, Lib.hid rfl, Lib.hid rfl, Lib.hid (World.ownsRow_nil _ _ _ _), Lib.hid (Below.refl _ _)⟩
          case round =>
            obtain ⟨L, A, n, c, i, rfl, rfl, hi, hni, HL, HJ, HO, HB⟩ := hrel
            by_cases hlt : i < (X.length + 1)
            · have hltI : (i : Int) < ((X.length : Int) + 1) := by omega
              obtain ⟨l, hl⟩ : ∃ l, ls[i]? = some l := ⟨_, List.getElem?_eq_getElem (by rw [HNL.out]; exact hlt)⟩
              have HLL := Lib.hid hl
              have hca := HCELL.out i l hl wr HB.out
              have HBK0 := Lib.hid (show Blk (wr.alloc (.cells #[.int .i64 ((i : Int) + 1), .string ⟨l.toArray⟩] 175)) wr.heap.size 175 [.int .i64 ((i : Int) + 1), .string ⟨l.toArray⟩] from Blk.new wr _ _)
              have HB0 := Lib.hid (below_newL (Below.refl wr.heap.size wr) (Below.alloc (Below.refl _ _) (Nat.le_refl _) (.cells #[.int .i64 ((i : Int) + 1), .string ⟨l.toArray⟩] 175)))
              clear hl
              go_upto_region 17 with fail
              generalize wr.alloc (.cells #[.int .i64 ((i : Int) + 1), .string ⟨l.toArray⟩] 175) = wb at *
              obtain ⟨wo, hwo⟩ : ∃ wo : World, wo = wr := ⟨_, rfl⟩
              subst hwo
              go_loopw [7] (fun x wi => ∃ (T : List UInt8) (j : Nat), x = .int .i64 (j : Int) ∧ i ≤ j ∧ j < (X.length + 1) ∧ T.length ≤ 20001 ∧ Hid (Blk wi wo.heap.size 175 [.int .i64 ((i : Int) + 1), .string ⟨T.toArray⟩]) ∧ Hid (Below wo.heap.size wo wi) ∧ Hid (contL l (ls.drop (i + 1)) = contL T (ls.drop (j + 1)) ∧ T.length + totL (ls.drop (j + 1)) ≤ 20001)) (fun x _ => (X.length + 1) - (intOf x).toNat)
              case atStart => exact ⟨l, i, rfl, Nat.le_refl _, hlt, by have h1 := totL_at HLL.out; have h2 := totL_drop ls i; have h3 := HTOT.out; omega, HBK0, HB0, Lib.hid ⟨rfl, by have h1 := totL_at HLL.out; have h2 := totL_drop ls i; have h3 := HTOT.out; omega⟩⟩
              case round =>
                obtain ⟨T, j, rfl, hij, hj, hT, HBK, HBW, HQ⟩ := hrel
                have hc0 := HBK.out.cell (j := 0) rfl
                have hc1 := HBK.out.cell (j := 1) rfl
                by_cases h0 : T = []
                · have hte : T.isEmpty = true := by rw [h0]; rfl
                  have HEX : Hid (contL l (ls.drop (i + 1)) = (T, ls.drop (j + 1))) := Lib.hid (by rw [HQ.out.1, contL_end (by rw [h0]; rfl)])
                  clear h0
                  have HSC := Lib.hid (rAside_any T (by omega) wr)
                  go_wp2_with fail
                  refine HSC.out.mono ?_
                  rintro e w9 ⟨rfl, rfl⟩
                  have hf1 := HBK.out.free 1
                  have HK10 := Lib.hid (HBK.out.same 1 (.string ⟨(asideL T).toArray⟩))
                  have HB10 := Lib.hid (HBW.out.setCell (p := ⟨wo.heap.size, 1, none⟩) (Nat.le_refl _) (.string ⟨(asideL T).toArray⟩))
                  go_upto_region 26 with fail
                  generalize wr.setCell ⟨wo.heap.size, 1, none⟩ (.string ⟨(asideL T).toArray⟩) = w10 at *
                  clear hc0 hc1 hf1
                  have HO10 := Lib.hid (own_belowL HO.out HB10.out)
                  have HBB := Lib.hid (below_newL HB.out HB10.out)
                  have hzz := HBB.out.size
                  have hc0 := HK10.out.cell (j := 0) rfl
                  have hc1 := HK10.out.cell (j := 1) rfl
                  have HJ2 : Hid (joinL 0 ls = L ++ ((if asideL T = [] then [] else [(i + 1, asideL T)]) ++ joinL (j + 1) (ls.drop (j + 1)))) := Lib.hid (by
                    have e : i + 1 + ((ls.drop (i + 1)).length - (ls.drop (j + 1)).length) = j + 1 := by rw [List.length_drop, List.length_drop, HNL.out]; omega
                    rw [HJ.out, drop_consL HLL.out, joinL_cons, HEX.out, e])
                  by_cases ha : asideL T = []
                  · have hae : (asideL T).isEmpty = true := by rw [ha]; rfl
                    have HJ3 : Hid (joinL 0 ls = L ++ joinL (j + 1) (ls.drop (j + 1))) := Lib.hid (by rw [HJ2.out, if_pos ha]; rfl)
                    clear ha
                    go_wp2_with fail
                    exact ⟨⟨L, A, n, c, j + 1, rfl, rfl, by omega, by omega, HL, HJ3, HO10, HBB⟩, measJ hij hj⟩
                  · have hae : (asideL T).isEmpty = false := by cases hq : asideL T with
                      | nil => exact absurd hq ha
                      | cons a l => rfl
                    have HJ3 : Hid (joinL 0 ls = (L ++ [(i + 1, asideL T)]) ++ joinL (j + 1) (ls.drop (j + 1))) := Lib.hid (by rw [HJ2.out, if_neg ha, List.append_assoc])
                    have hn24 : (n + 1) * 24 ≤ 140737488355328 := by omega
                    clear ha
                    go_wp2_with (at_builtin; refine wpList_pushLn w10 _ _ w1.heap.size A n c L (i + 1, asideL T) _ rfl HO10.out hzz hn24 rfl rfl rfl rfl ?_; intro g5 c5 w5 hown5 hb5)
                    exact ⟨⟨L ++ [(i + 1, asideL T)], some ⟨g5, 0, none⟩, n + 1, c5, j + 1, rfl, rfl, by omega, by omega, Lib.hid (by simp [HL.out]), HJ3, Lib.hid hown5, Lib.hid (HBB.out.trans hb5)⟩, measJ hij hj⟩
                · obtain ⟨u, d, rfl⟩ := snoc_of h0
                  have HS1 := Lib.hid (strIsL (u ++ [d]))
                  have hsz : (⟨(u ++ [d]).toArray⟩ : ByteArray).size = u.length + 1 := by rw [HS1.out.size]; simp
                  have hul : u.length ≤ 20000 := by simp at hT; omega
                  have HD : Hid ((⟨(u ++ [d]).toArray⟩ : ByteArray).toList.isEmpty = false) := Lib.hid (by rw [Lib.toList_data]; simp)
                  have hsl := ext_takeL HS1.out u.length
                  rw [List.take_left' rfl] at hsl
                  have HDB : Hid ((u ++ [d]).isEmpty = false) := Lib.hid (by simp)
                  clear h0
                  by_cases hd : d = 92
                  · subst hd
                    have HE2 : Hid (endsB (u ++ [92]) = true) := Lib.hid (by unfold endsB; simp)
                    have hus : (⟨u.toArray⟩ : ByteArray).size = u.length := rfl
                    clear HDB
                    generalize (⟨(u ++ [92]).toArray⟩ : ByteArray) = bu at *
                    generalize hbs : (⟨u.toArray⟩ : ByteArray) = bs at *
                    have HBS := Lib.hid hbs
                    clear hbs
                    have g1 : ∀ h, bu[u.length]'h = 92 := fun h => last_at HS1.out h
                    have e1 : (bu.size : Int) - 1 = (u.length : Int) := by omega
                    have l1 : (u.length : Int) < (bu.size : Int) := by omega
                    have l2 : u.length < bu.size := by omega
                    have l3 : u.length ≤ bu.size := by omega
                    have he := HD.out
                    have hf1 := HBK.out.free 1
                    have HK8 := Lib.hid (HBK.out.same 1 (.string bs))
                    have HB8 := Lib.hid (HBW.out.setCell (p := ⟨wo.heap.size, 1, none⟩) (Nat.le_refl _) (.string bs))
                    go_upto_region 19 with fail
                    generalize wr.setCell ⟨wo.heap.size, 1, none⟩ (.string bs) = w8 at *
                    clear hc0 hc1 hf1 g1 hsl
                    have hc0 := HK8.out.cell (j := 0) rfl
                    have hc1 := HK8.out.cell (j := 1) rfl
                    have HBK := HK8
                    have HBW := HB8
                    by_cases hend : j + 1 = (X.length + 1)
                    · have HEX : Hid (contL l (ls.drop (i + 1)) = (u, ls.drop (j + 1))) := Lib.hid (by
                        rw [HQ.out.1, List.drop_eq_nil_of_le (by rw [HNL.out]; omega), contL, HE2.out, if_pos rfl, List.dropLast_concat])
                      have hendI : ((j : Int) + 1 == (((X.length : Int) + 1))) = true := by simp; omega
                      have HSC := Lib.hid (rAside_any u (by omega) w8)
                      rw [HBS.out] at HSC
                      go_wp2_with fail
                      refine HSC.out.mono ?_
                      rintro e w9 ⟨rfl, rfl⟩
                      have hf1 := HBK.out.free 1
                      have HK10 := Lib.hid (HBK.out.same 1 (.string ⟨(asideL u).toArray⟩))
                      have HB10 := Lib.hid (HBW.out.setCell (p := ⟨wo.heap.size, 1, none⟩) (Nat.le_refl _) (.string ⟨(asideL u).toArray⟩))
                      go_upto_region 26 with fail
                      generalize w8.setCell ⟨wo.heap.size, 1, none⟩ (.string ⟨(asideL u).toArray⟩) = w10 at *
                      clear hc0 hc1 hf1
                      have HO10 := Lib.hid (own_belowL HO.out HB10.out)
                      have HBB := Lib.hid (below_newL HB.out HB10.out)
                      have hzz := HBB.out.size
                      have hc0 := HK10.out.cell (j := 0) rfl
                      have hc1 := HK10.out.cell (j := 1) rfl
                      have HJ2 : Hid (joinL 0 ls = L ++ ((if asideL u = [] then [] else [(i + 1, asideL u)]) ++ joinL (j + 1) (ls.drop (j + 1)))) := Lib.hid (by
                        have e : i + 1 + ((ls.drop (i + 1)).length - (ls.drop (j + 1)).length) = j + 1 := by rw [List.length_drop, List.length_drop, HNL.out]; omega
                        rw [HJ.out, drop_consL HLL.out, joinL_cons, HEX.out, e])
                      by_cases ha : asideL u = []
                      · have hae : (asideL u).isEmpty = true := by rw [ha]; rfl
                        have HJ3 : Hid (joinL 0 ls = L ++ joinL (j + 1) (ls.drop (j + 1))) := Lib.hid (by rw [HJ2.out, if_pos ha]; rfl)
                        clear ha
                        go_wp2_with fail
                        exact ⟨⟨L, A, n, c, j + 1, rfl, rfl, by omega, by omega, HL, HJ3, HO10, HBB⟩, measJ hij hj⟩
                      · have hae : (asideL u).isEmpty = false := by cases hq : asideL u with
                          | nil => exact absurd hq ha
                          | cons a l => rfl
                        have HJ3 : Hid (joinL 0 ls = (L ++ [(i + 1, asideL u)]) ++ joinL (j + 1) (ls.drop (j + 1))) := Lib.hid (by rw [HJ2.out, if_neg ha, List.append_assoc])
                        have hn24 : (n + 1) * 24 ≤ 140737488355328 := by omega
                        clear ha
                        go_wp2_with (at_builtin; refine wpList_pushLn w10 _ _ w1.heap.size A n c L (i + 1, asideL u) _ rfl HO10.out hzz hn24 rfl rfl rfl rfl ?_; intro g5 c5 w5 hown5 hb5)
                        exact ⟨⟨L ++ [(i + 1, asideL u)], some ⟨g5, 0, none⟩, n + 1, c5, j + 1, rfl, rfl, by omega, by omega, Lib.hid (by simp [HL.out]), HJ3, Lib.hid hown5, Lib.hid (HBB.out.trans hb5)⟩, measJ hij hj⟩
                    · have hlt2 : j + 1 < (X.length + 1) := by omega
                      have hlt2I : (j : Int) + 1 < ((X.length : Int) + 1) := by omega
                      have hendI : ((j : Int) + 1 == (((X.length : Int) + 1))) = false := by simp; omega
                      obtain ⟨l2, hl2⟩ : ∃ l2, ls[j + 1]? = some l2 := ⟨_, List.getElem?_eq_getElem (by rw [HNL.out]; exact hlt2)⟩
                      have HDR := Lib.hid (drop_consL hl2)
                      have HTA := Lib.hid (totL_at hl2)
                      have hll2 : l2.length + u.length ≤ 20001 := by
                        have h1 := HTA.out
                        have h2 := HQ.out.2
                        simp only [List.length_append, List.length_singleton] at h2
                        omega
                      have hf1 := HK8.out.free 1
                      have hca2 := HCELL.out (j + 1) l2 hl2 w8 (below_newL HB.out HBW.out)
                      have HQ3 : Hid (contL l (ls.drop (i + 1)) = contL (u ++ [32] ++ trimLL l2) (ls.drop (j + 1 + 1)) ∧ (u ++ [32] ++ trimLL l2).length + totL (ls.drop (j + 1 + 1)) ≤ 20001) := Lib.hid (by
                        have h1 := HTA.out
                        have h2 := HQ.out.2
                        have h3 := trimLL_le l2
                        rw [HQ.out.1, HDR.out, contL, HE2.out, if_pos rfl, List.dropLast_concat]
                        refine ⟨rfl, ?_⟩
                        simp only [List.length_append, List.length_singleton] at h2 ⊢
                        omega)
                      have hl4 : (u ++ [32] ++ trimLL l2).length ≤ 20001 := by have := HQ3.out.2; omega
                      clear hl2
                      go_wp2_with fail
                      go_loop [9] (fun x => ∃ t : List UInt8, x = .string ⟨t.toArray⟩ ∧ t.length ≤ l2.length ∧ Hid (trimLL l2 = trimLL t)) (fun x => strLenL x)
                      case atStart => exact ⟨l2, rfl, Nat.le_refl _, Lib.hid rfl⟩
                      case round =>
                        obtain ⟨t, rfl, ht, HT⟩ := hrel
                        cases t with
                        | nil =>
                          have HTE : Hid (trimLL l2 = []) := Lib.hid (by rw [HT.out]; rfl)
                          have HCA : Hid (bs ++ ((⟨#[32]⟩ : ByteArray) ++ ⟨#[]⟩) = ⟨(u ++ [32] ++ trimLL l2).toArray⟩) := Lib.hid (by
                            have e1 := cat_bytesL [32] []
                            have e2 := cat_bytesL u ([32] ++ [])
                            rw [HTE.out, ← HBS.out, List.append_assoc]
                            exact (congrArg ((⟨u.toArray⟩ : ByteArray) ++ ·) e1).trans e2)
                          go_upto_region 24 with fail
                          have HK9 := Lib.hid (HBK.out.same 1 (.string (bs ++ (⟨#[32]⟩ ++ ⟨#[]⟩))))
                          have HB9 := Lib.hid (HBW.out.setCell (p := ⟨wo.heap.size, 1, none⟩) (Nat.le_refl _) (.string (bs ++ (⟨#[32]⟩ ++ ⟨#[]⟩))))
                          have HK10 : Hid (Blk (w8.setCell ⟨wo.heap.size, 1, none⟩ (.string (bs ++ (⟨#[32]⟩ ++ ⟨#[]⟩)))) wo.heap.size 175 [.int .i64 ((i : Int) + 1), .string ⟨(u ++ [32] ++ trimLL l2).toArray⟩]) := Lib.hid (by
                            have h := HK9.out
                            generalize w8.setCell ⟨wo.heap.size, 1, none⟩ (.string (bs ++ (⟨#[32]⟩ ++ ⟨#[]⟩))) = wz at h ⊢
                            rw [HCA.out] at h
                            exact h)
                          clear HK9
                          go_wp2_with fail
                          exact ⟨⟨u ++ [32] ++ trimLL l2, j + 1, rfl, by omega, hlt2, hl4, HK10, HB9, HQ3⟩, measJ (Nat.le_refl j) hj⟩
                        | cons c2 t' =>
                          have g0 : ∀ h, (⟨(c2 :: t').toArray⟩ : ByteArray)[0]'h = c2 := fun _ => rfl
                          have hsl2 := ext_tail c2 t'
                          cases hb : blankB c2 with
                          | true =>
                            have HBL := Lib.hid (fun W => rBlank_is c2 W hb)
                            have HT2 : Hid (trimLL l2 = trimLL t') := Lib.hid (by rw [HT.out, trimLL_cons, hb]; rfl)
                            have hl3 : t'.length + 1 ≤ l2.length := by simpa using ht
                            clear hb ht
                            go_wp2_with fail
                            refine (HBL.out _).mono ?_
                            rintro e w2 ⟨rfl, rfl⟩
                            go_wp2_with fail
                            exact ⟨⟨t', rfl, by omega, HT2⟩, Nat.lt_succ_self _⟩
                          | false =>
                            have HBL := Lib.hid (fun W => rBlank_is c2 W hb)
                            have HTE : Hid (trimLL l2 = c2 :: t') := Lib.hid (by rw [HT.out, trimLL_cons, hb]; rfl)
                            have HCA : Hid (bs ++ ((⟨#[32]⟩ : ByteArray) ++ ⟨(c2 :: t').toArray⟩) = ⟨(u ++ [32] ++ trimLL l2).toArray⟩) := Lib.hid (by
                              have e1 := cat_bytesL [32] (c2 :: t')
                              have e2 := cat_bytesL u ([32] ++ (c2 :: t'))
                              rw [HTE.out, ← HBS.out, List.append_assoc]
                              exact (congrArg ((⟨u.toArray⟩ : ByteArray) ++ ·) e1).trans e2)
                            have hbt : (⟨(c2 :: t').toArray⟩ : ByteArray).size ≤ 20001 := by show (c2 :: t').length ≤ 20001; omega
                            clear hb
                            go_wp2_with fail
                            refine (HBL.out _).mono ?_
                            rintro e w2 ⟨rfl, rfl⟩
                            clear g0 hsl2
                            generalize (⟨(c2 :: t').toArray⟩ : ByteArray) = bt at *
                            have HK9 := Lib.hid (HBK.out.same 1 (.string (bs ++ (⟨#[32]⟩ ++ bt))))
                            have HB9 := Lib.hid (HBW.out.setCell (p := ⟨wo.heap.size, 1, none⟩) (Nat.le_refl _) (.string (bs ++ (⟨#[32]⟩ ++ bt))))
                            have HK10 : Hid (Blk (w8.setCell ⟨wo.heap.size, 1, none⟩ (.string (bs ++ (⟨#[32]⟩ ++ bt)))) wo.heap.size 175 [.int .i64 ((i : Int) + 1), .string ⟨(u ++ [32] ++ trimLL l2).toArray⟩]) := Lib.hid (by
                              have h := HK9.out
                              generalize w8.setCell ⟨wo.heap.size, 1, none⟩ (.string (bs ++ (⟨#[32]⟩ ++ bt))) = wz at h ⊢
                              rw [HCA.out] at h
                              exact h)
                            clear HK9
                            go_wp2_with fail
                            exact ⟨⟨u ++ [32] ++ trimLL l2, j + 1, rfl, by omega, hlt2, hl4, HK10, HB9, HQ3⟩, measJ (Nat.le_refl j) hj⟩
                  · have kd : ((d.toNat : Int) == 92) = false := eqK hd
                    have HEX : Hid (contL l (ls.drop (i + 1)) = (u ++ [d], ls.drop (j + 1))) := Lib.hid (by rw [HQ.out.1, contL_end (by unfold endsB; simp [hd])])
                    clear hd
                    have HBKo := HBK
                    have HSC := Lib.hid (rAside_any (u ++ [d]) (by omega) wr)
                    generalize (⟨(u ++ [d]).toArray⟩ : ByteArray) = bu at *
                    have g1 : ∀ h, bu[u.length]'h = d := fun h => last_at HS1.out h
                    have e1 : (bu.size : Int) - 1 = (u.length : Int) := by omega
                    have l1 : (u.length : Int) < (bu.size : Int) := by omega
                    have l2 : u.length < bu.size := by omega
                    have he := HD.out
                    have hq1 := HDB.out
                    go_wp2_with fail
                    refine HSC.out.mono ?_
                    rintro e w9 ⟨rfl, rfl⟩
                    have hf1 := HBK.out.free 1
                    have HK10 := Lib.hid (HBK.out.same 1 (.string ⟨(asideL (u ++ [d])).toArray⟩))
                    have HB10 := Lib.hid (HBW.out.setCell (p := ⟨wo.heap.size, 1, none⟩) (Nat.le_refl _) (.string ⟨(asideL (u ++ [d])).toArray⟩))
                    go_upto_region 26 with fail
                    generalize wr.setCell ⟨wo.heap.size, 1, none⟩ (.string ⟨(asideL (u ++ [d])).toArray⟩) = w10 at *
                    clear hc0 hc1 hf1
                    have HO10 := Lib.hid (own_belowL HO.out HB10.out)
                    have HBB := Lib.hid (below_newL HB.out HB10.out)
                    have hzz := HBB.out.size
                    have hc0 := HK10.out.cell (j := 0) rfl
                    have hc1 := HK10.out.cell (j := 1) rfl
                    have HJ2 : Hid (joinL 0 ls = L ++ ((if asideL (u ++ [d]) = [] then [] else [(i + 1, asideL (u ++ [d]))]) ++ joinL (j + 1) (ls.drop (j + 1)))) := Lib.hid (by
                      have e : i + 1 + ((ls.drop (i + 1)).length - (ls.drop (j + 1)).length) = j + 1 := by rw [List.length_drop, List.length_drop, HNL.out]; omega
                      rw [HJ.out, drop_consL HLL.out, joinL_cons, HEX.out, e])
                    by_cases ha : asideL (u ++ [d]) = []
                    · have hae : (asideL (u ++ [d])).isEmpty = true := by rw [ha]; rfl
                      have HJ3 : Hid (joinL 0 ls = L ++ joinL (j + 1) (ls.drop (j + 1))) := Lib.hid (by rw [HJ2.out, if_pos ha]; rfl)
                      clear ha
                      go_wp2_with fail
                      exact ⟨⟨L, A, n, c, j + 1, rfl, rfl, by omega, by omega, HL, HJ3, HO10, HBB⟩, measJ hij hj⟩
                    · have hae : (asideL (u ++ [d])).isEmpty = false := by cases hq : asideL (u ++ [d]) with
                        | nil => exact absurd hq ha
                        | cons a l => rfl
                      have HJ3 : Hid (joinL 0 ls = (L ++ [(i + 1, asideL (u ++ [d]))]) ++ joinL (j + 1) (ls.drop (j + 1))) := Lib.hid (by rw [HJ2.out, if_neg ha, List.append_assoc])
                      have hn24 : (n + 1) * 24 ≤ 140737488355328 := by omega
                      clear ha
                      go_wp2_with (at_builtin; refine wpList_pushLn w10 _ _ w1.heap.size A n c L (i + 1, asideL (u ++ [d])) _ rfl HO10.out hzz hn24 rfl rfl rfl rfl ?_; intro g5 c5 w5 hown5 hb5)
                      exact ⟨⟨L ++ [(i + 1, asideL (u ++ [d]))], some ⟨g5, 0, none⟩, n + 1, c5, j + 1, rfl, rfl, by omega, by omega, Lib.hid (by simp [HL.out]), HJ3, Lib.hid hown5, Lib.hid (HBB.out.trans hb5)⟩, measJ hij hj⟩
            · have hie : i = (X.length + 1) := by omega
              subst hie
              have HJE : Hid (joinL 0 ls = L) := Lib.hid (by rw [HJ.out, List.drop_eq_nil_of_le (by rw [HNL.out]; exact Nat.le_refl _), joinL_nil, List.append_nil])
              go_wp2_with fail
              go_ret2
              exact ⟨(HB1.out.trans (HB.out.mono HB1.out.size)), .inr ⟨A, n, c, HE.out, by rw [HLS.out, HJE.out, HL.out], by rw [HLS.out, HJE.out]; exact ownL_base HO.out HB1.out.size, rfl⟩⟩
end Go.Proofs.YtoandhhkmkgmaaaGreatDoor
