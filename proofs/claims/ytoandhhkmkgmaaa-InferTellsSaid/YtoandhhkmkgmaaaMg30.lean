/- Contract: name.Sort. Lengths at most 8800000000000. -/
import Derived.Test.YtoandhhkmkgmaaaMg28
import Derived.Test.YtoandhhkmkgmaaaSortOwn
import Derived.Lib.RowBridge
namespace Go.Proofs.Ytoandhhkmkgmaaa
open Go.RowKit Go.Sort Go.Lib

def ms (l : List (List UInt8)) : List (List UInt8) := l.mergeSort fun x y => decide (x ≤ y)
theorem ms_len (l : List (List UInt8)) : (ms l).length = l.length := by unfold ms; simp
theorem own_shape {w : World} {B e n : Nat} {v : Value} {xs : List Value} (h : w.ownsRow B e 1 v n xs) : ∃ A c, v = .slice A n c := by
  rcases h.2 with ⟨rfl, rfl⟩ | ⟨g, cap, cur, rfl, _⟩
  · exact ⟨_, _, rfl⟩
  · exact ⟨_, _, rfl⟩
/-- A slice that reads as texts, in the words of the iterator. -/
theorem Texts.of_rd {w : World} {A : Option Addr} {n c : Nat} {l : List (List UInt8)} (h : Rd w A (l.map sv)) (hn : l.length = n) : Texts w.heap.size w (.slice A n c) l := by
  subst hn
  rcases Nat.eq_zero_or_pos l.length with h0 | h0
  · have : l = [] := List.eq_nil_of_length_eq_zero h0
    subst this
    exact .inl ⟨A, c, rfl, rfl⟩
  · obtain ⟨b, off, rfl, hb, hc⟩ := h (by simpa using h0)
    refine .inr ⟨b, off, c, rfl, hb, fun j hj => hc j _ ?_⟩
    simp [hj]
theorem Texts.grown {w w' : World} {s : Value} {l : List (List UInt8)} (h : Texts w.heap.size w s l) (hb : Below w.heap.size w w') : Texts w'.heap.size w' s l := by
  rcases h.below hb with e | ⟨b, off, cap, e, hlt, hc⟩
  · exact .inl e
  · exact .inr ⟨b, off, cap, e, Nat.lt_of_lt_of_le hlt hb.size, hc⟩

theorem collect_any {Bs : Nat} {s : Value} (l : List (List UInt8)) (w : World) (hlen : l.length ≤ 8800000000000) (hBs : Bs < w.heap.size) (hc0 : w.cell? ⟨Bs, 0, none⟩ = some s) (hI : Texts w.heap.size w s l) :
    Calls Try.prog 72 #[.func (.func 84) #[] #[.pointer (some ⟨Bs, 0, none⟩)]] w fun e w' =>
      ∃ A c, e = .returned (.slice A l.length c) ∧ w'.ownsRow w.heap.size 9 1 (.slice A l.length c) l.length (l.map sv) ∧ Below w.heap.size w w' := by
  refine Calls.mono ((callsIn_wide (n := 6)).1 (collect_in Fence.wide 6 trivial trivial trivial rfl (by omega) Bs s l hlen w hBs hc0 hI)) ?_
  rintro e w' ⟨v, rfl, hrow, hb⟩
  obtain ⟨A, c, rfl⟩ := own_shape hrow
  exact ⟨A, c, rfl, hrow, hb⟩
theorem values_any (A : Option Addr) (n c : Nat) (w : World) :
    Calls Try.prog 71 #[.slice A n c] w fun e w' => e = .returned (.func (.func 84) #[] #[.pointer (some ⟨w.heap.size, 0, none⟩)]) ∧ w' = w.alloc (.cells #[.slice A n c] 32) :=
  (callsIn_wide (n := 6)).1 (values_in Fence.wide 6 trivial rfl A n c w)

set_option maxHeartbeats 1000000 in
theorem sorted_any {Bs : Nat} {s : Value} (l : List (List UInt8)) (w : World) (hlen : l.length ≤ 8800000000000) (hBs : Bs < w.heap.size) (hc0 : w.cell? ⟨Bs, 0, none⟩ = some s) (hI : Texts w.heap.size w s l) :
    Calls Try.prog 46 #[.func (.func 84) #[] #[.pointer (some ⟨Bs, 0, none⟩)]] w fun e w' =>
      ∃ A c, e = .returned (.slice A l.length c) ∧ w'.ownsRow w.heap.size 9 1 (.slice A l.length c) l.length ((ms l).map sv) ∧ Below w.heap.size w w' := by
  have HC := Lib.hid (collect_any l w hlen hBs hc0 hI)
  clear hc0 hI
  go_enter Try.func46, Try.ntmps46
  go_wp2_with fail
  refine HC.out.mono ?_
  rintro e w1 ⟨A1, c1, rfl, hown, hb1⟩
  have HO := Lib.hid hown
  have HB := Lib.hid hb1
  clear hown hb1
  rcases Nat.eq_zero_or_pos l.length with h0 | h0
  · have hl : l = [] := List.eq_nil_of_length_eq_zero h0
    subst hl
    go_wp2_with fail
    refine (Try.slices_Sort_string_none _ _ _).mono ?_
    rintro e w' ⟨rfl, rfl⟩
    go_wp2_with fail
    go_ret
    exact ⟨A1, c1, rfl, by simpa [ms] using HO.out, HB.out⟩
  · obtain ⟨g, rfl, hg1, hg2, hH⟩ := own_holds HO.out h0
    have HT := Lib.hid (Try.slices_Sort_string g 0 c1 l w1 hH hg2 (by omega))
    clear hH
    go_wp2_with fail
    refine HT.out.mono ?_
    rintro e w2 ⟨rfl, q, os, e2⟩
    have HS := Lib.hid (own_sorted HO.out (ms_len l) q os)
    have HSB := Lib.hid (own_sorted_below HO.out (ms_len l) HB.out.size q os)
    have e3 : w2 = sortWorld sv w1 g 0 q (ms l).toArray os := e2
    clear e2
    generalize sortWorld sv w1 g 0 q (ms l).toArray os = w3 at HS HSB e3
    subst e3
    go_wp2_with fail
    go_ret
    exact ⟨_, c1, rfl, HS.out.1, HB.out.trans HSB.out⟩

/-- A row of the call's own, compacted. -/
theorem compact_own {A : Option Addr} {n c : Nat} (l : List (List UInt8)) (B : Nat) (w : World) (h : w.ownsRow B 9 1 (.slice A n c) n ((ms l).map sv)) (hn : l.length = n) (hb : n ≤ 8800000000000) (hB : B ≤ w.heap.size) :
    Calls Try.prog 70 #[.slice A n c] w fun e w' =>
      ∃ A c, e = .returned (.slice A (rising l).length c) ∧ Rd w' A ((rising l).map sv) ∧ Below B w w' := by
  subst hn
  rcases Nat.eq_zero_or_pos l.length with h0 | h0
  · have hl : l = [] := List.eq_nil_of_length_eq_zero h0
    subst hl
    refine (Try.slices_Compact_string_empty A c w).mono ?_
    rintro e w' ⟨rfl, rfl⟩
    exact ⟨A, c, rfl, Rd.nil_ _ _, Below.refl _ _⟩
  · have hle := own_more h h0
    obtain ⟨g, hA, hle⟩ := hle
    have hlen : l.length = (ms l).length := (ms_len l).symm
    rw [hlen] at h h0 hle ⊢
    obtain ⟨g', hA', hg1, hg2, hH⟩ := own_holds h h0
    rw [hA] at hA'
    injection hA' with hA'
    injection hA' with hA' _ _
    subst hA'
    subst hA
    refine (Try.slices_Compact_string g 0 c (ms l) w hH (by omega) hle).mono ?_
    rintro e w' ⟨rfl, q, rfl⟩
    have hc : Lib.compact (ms l) = rising l := compact_sorted l
    rw [hc]
    have hl2 : (rising l ++ List.replicate ((ms l).length - (rising l).length) ([] : List UInt8)).length = (ms l).length := by
      have := Lib.compact_length_le (ms l)
      rw [hc] at this
      simp; omega
    have hs := own_sorted h hl2 q #[]
    have hsb := own_sorted_below h hl2 hB q #[]
    have e1 : sortWorld sv w g 0 q (rising l ++ List.replicate ((ms l).length - (rising l).length) ([] : List UInt8)).toArray #[] = putRow encStr (Sort.ahead w q) g 0 (rising l ++ List.replicate ((ms l).length - (rising l).length) []).toArray := by
      unfold sortWorld
      rw [grow_empty]
      rfl
    rw [e1] at hs hsb
    refine ⟨_, c, rfl, fun hx => ?_, hsb⟩
    obtain ⟨b, off, hA3, hb3, hc3⟩ := (Rd.of_own hs.1) (by simp at hx ⊢; omega)
    refine ⟨b, off, hA3, hb3, fun j u hu => hc3 j u ?_⟩
    rw [List.map_append, List.getElem?_append_left (by exact (List.getElem?_eq_some_iff.1 hu).1)]
    exact hu
end Go.Proofs.Ytoandhhkmkgmaaa
/- Contract: name.Sort. Lengths at most 8800000000000. -/
namespace Go.Proofs.Ytoandhhkmkgmaaa
open Go.RowKit

/-- What Sort hands back. -/
def sortL (l : List (List UInt8)) : List (List UInt8) := if l.all goodName then rising l else []
def SortPost (l : List (List UInt8)) (w : World) (e : Ending) (w' : World) : Prop :=
  ∃ A c, e = .returned (.tuple #[.slice A (sortL l).length c, .int .i64 (namesErr l)]) ∧ Rd w' A ((sortL l).map sv) ∧ Below w.heap.size w w'
theorem nameErr_good {s : List UInt8} (h : goodName s = true) : nameErr s = 0 := by unfold nameErr; rw [if_pos h]
theorem nameErr_bad {s : List UInt8} (h : goodName s = false) : nameErr s = 3 := by unfold nameErr; rw [if_neg (by simp [h])]
theorem sort_bad {l : List (List UInt8)} {w : World} (h : l.all goodName = false) {e : Ending} (he : e = .returned (.tuple #[.slice none 0 0, .int .i64 3])) : SortPost l w e w :=
  ⟨none, 0, by rw [he]; simp [sortL, namesErr, h], by simpa [sortL, h] using Rd.nil_ w none, Below.refl _ _⟩

set_option maxHeartbeats 2000000 in
theorem nSort_any {A : Option Addr} {n c : Nat} (l : List (List UInt8)) (w : World) (hr : Rd w A (l.map sv)) (hn : l.length = n) (hb : n ≤ 8800000000000) (hs : StrsOk l) :
    Calls Try.prog 44 #[.slice A n c] w (SortPost l w) := by
  have HR := Lib.hid hr
  have HN := Lib.hid hn
  have HS := Lib.hid hs
  clear hr hn hs
  go_enter Try.func44, Try.ntmps44
  go_wp2_with fail
  go_loop [5, 6, 9] (fun _ _ i => ∃ k : Nat, k ≤ n ∧ i = .int .i64 (k : Int) ∧ Hid (∀ (j : Nat) (s : List UInt8), j < k → l[j]? = some s → goodName s = true)) (fun _ _ i => n - (intOf i).toNat)
  case atStart => exact ⟨0, by omega, rfl, Lib.hid (fun _ _ hj => absurd hj (Nat.not_lt_zero _))⟩
  case round =>
    obtain ⟨k, hk, rfl, hall⟩ := hrel
    by_cases hlt : k < n
    · obtain ⟨x, hx⟩ : ∃ x, l[k]? = some x := ⟨_, List.getElem?_eq_getElem (by rw [HN.out]; exact hlt)⟩
      obtain ⟨b, off, rfl, hc⟩ := HR.out.scell hx
      have HX := Lib.hid hx
      have HC := Lib.hid (nmCheck_any x · (HS.out x (List.mem_of_getElem? hx)))
      unfold sv at HC
      clear hx
      cases hq : goodName x with
      | true =>
        have HQ := Lib.hid hq
        have HZ := Lib.hid (nameErr_good hq)
        clear hq
        go_wp2_with fail
        refine (HC.out _).mono ?_
        rintro e w' ⟨rfl, rfl⟩
        rw [HZ.out]
        go_wp2_with fail
        go_round
        case rel => exact ⟨k + 1, by omega, by go_num, Lib.hid (fun j s hj hs => by
          rcases Nat.lt_or_ge j k with h | h
          · exact hall.out j s h hs
          · obtain rfl : j = k := by omega
            rw [HX.out] at hs
            injection hs with hs
            rw [← hs]; exact HQ.out)⟩
        case measure => simp [intOf]; omega
      | false =>
        have HE := Lib.hid (goods_no HX.out hq)
        have HZ := Lib.hid (nameErr_bad hq)
        clear hq
        go_wp2_with fail
        refine (HC.out _).mono ?_
        rintro e w' ⟨rfl, rfl⟩
        rw [HZ.out]
        go_wp2_with fail
        go_ret2
        exact sort_bad HE.out rfl
    · have HE : Hid (l.all goodName = true) := Lib.hid (by rw [goods_yes (fun j s hs => hall.out j s (by have := (List.getElem?_eq_some_iff.1 hs).1; have := HN.out; omega) hs)])
      have hB1 : Below w.heap.size w (w.alloc (.cells #[.slice A n c] 32)) := (Below.refl _ w).alloc (Nat.le_refl _) _
      have hI := (Texts.of_rd (c := c) HR.out HN.out).grown hB1
      have HT := Lib.hid (sorted_any (Bs := w.heap.size) l (w.alloc (.cells #[.slice A n c] 32)) (by rw [HN.out]; exact hb) (by simp) (by rw [World.cell?_alloc_at _ _ _ _ rfl]; rfl) hI)
      have HB1 := Lib.hid hB1
      clear hI hB1
      go_wp2_with fail
      refine (values_any A n c w).mono ?_
      rintro e w' ⟨rfl, rfl⟩
      go_wp2_with fail
      refine HT.out.mono ?_
      rintro e w2 ⟨A2, c2, rfl, hown, hb2⟩
      rw [HN.out] at hown ⊢
      have HK := Lib.hid (compact_own l w.heap.size w2 (own_base hown (by simp)) HN.out hb (Nat.le_trans HB1.out.size hb2.size))
      have HB2 := Lib.hid (HB1.out.trans (hb2.mono HB1.out.size))
      clear hown hb2
      go_wp2_with fail
      refine HK.out.mono ?_
      rintro e w3 ⟨A3, c3, rfl, hrd, hb3⟩
      have HRD := Lib.hid hrd
      have HB3 := Lib.hid hb3
      clear hrd hb3
      go_wp2_with fail
      go_ret2
      refine ⟨A3, c3, by simp [sortL, namesErr, HE.out], by simpa [sortL, HE.out] using HRD.out, HB2.out.trans HB3.out⟩
end Go.Proofs.Ytoandhhkmkgmaaa
