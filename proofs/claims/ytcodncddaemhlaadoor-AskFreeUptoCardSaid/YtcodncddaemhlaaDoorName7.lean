/- Contract: name.Sort. Lengths below 2^40. -/
import Derived.Test.YtcodncddaemhlaaDoorName6
import Derived.Test.YtcodncddaemhlaaDoorSortOwn
import Derived.Lib.RowBridge
namespace Go.Proofs.YtcodncddaemhlaaDoor
open Go.RowKit Go.Sort Go.Lib

def ms (l : List (List UInt8)) : List (List UInt8) := l.mergeSort fun x y => decide (x ≤ y)
theorem ms_len (l : List (List UInt8)) : (ms l).length = l.length := by unfold ms; simp
theorem own_shape {w : World} {B e n : Nat} {v : Value} {xs : List Value} (h : w.ownsRow B e 1 v n xs) : ∃ A c, v = .slice A n c := by
  rcases h.2 with ⟨rfl, rfl⟩ | ⟨g, cap, cur, rfl, _⟩
  · exact ⟨_, _, rfl⟩
  · exact ⟨_, _, rfl⟩
/-- A slice that reads as texts, in the words of the iterator. -/
theorem Texts.of_rd {w : World} {A : Option Addr} {n c : Nat} {l : List (List UInt8)} (h : Rd w A (l.map sv)) (hn : l.length = n) : Texts w.heap.size w (.slice A n c) l := by
  subst hn
  rcases Nat.eq_zero_or_pos l.length with h0 | h0
  · have : l = [] := List.eq_nil_of_length_eq_zero h0
    subst this
    exact .inl ⟨A, c, rfl, rfl⟩
  · obtain ⟨b, off, rfl, hb, hc⟩ := h (by simpa using h0)
    refine .inr ⟨b, off, c, rfl, hb, fun j hj => hc j _ ?_⟩
    simp [hj]
theorem Texts.grown {w w' : World} {s : Value} {l : List (List UInt8)} (h : Texts w.heap.size w s l) (hb : Below w.heap.size w w') : Texts w'.heap.size w' s l := by
  rcases h.below hb with e | ⟨b, off, cap, e, hlt, hc⟩
  · exact .inl e
  · exact .inr ⟨b, off, cap, e, Nat.lt_of_lt_of_le hlt hb.size, hc⟩

theorem collect_any {Bs : Nat} {s : Value} (l : List (List UInt8)) (w : World) (hlen : l.length ≤ 1099511627776) (hBs : Bs < w.heap.size) (hc0 : w.cell? ⟨Bs, 0, none⟩ = some s) (hI : Texts w.heap.size w s l) :
    Calls Tryd.prog 31 #[.func (.func 33) #[] #[.pointer (some ⟨Bs, 0, none⟩)]] w fun e w' =>
      ∃ A c, e = .returned (.slice A l.length c) ∧ w'.ownsRow w.heap.size 9 1 (.slice A l.length c) l.length (l.map sv) ∧ Below w.heap.size w w' := by
  refine Calls.mono ((callsIn_wide (n := 6)).1 (collect_in Fence.wide 6 trivial trivial trivial rfl (by omega) Bs s l hlen w hBs hc0 hI)) ?_
  rintro e w' ⟨v, rfl, hrow, hb⟩
  obtain ⟨A, c, rfl⟩ := own_shape hrow
  exact ⟨A, c, rfl, hrow, hb⟩
theorem values_any (A : Option Addr) (n c : Nat) (w : World) :
    Calls Tryd.prog 21 #[.slice A n c] w fun e w' => e = .returned (.func (.func 33) #[] #[.pointer (some ⟨w.heap.size, 0, none⟩)]) ∧ w' = w.alloc (.cells #[.slice A n c] 35) :=
  (callsIn_wide (n := 6)).1 (values_in Fence.wide 6 trivial rfl A n c w)

set_option maxHeartbeats 1000000 in
theorem sorted_any {Bs : Nat} {s : Value} (l : List (List UInt8)) (w : World) (hlen : l.length ≤ 1099511627776) (hBs : Bs < w.heap.size) (hc0 : w.cell? ⟨Bs, 0, none⟩ = some s) (hI : Texts w.heap.size w s l) :
    Calls Tryd.prog 20 #[.func (.func 33) #[] #[.pointer (some ⟨Bs, 0, none⟩)]] w fun e w' =>
      ∃ A c, e = .returned (.slice A l.length c) ∧ w'.ownsRow w.heap.size 9 1 (.slice A l.length c) l.length ((ms l).map sv) ∧ Below w.heap.size w w' := by
  have HC := Lib.hid (collect_any l w hlen hBs hc0 hI)
  clear hc0 hI
  go_enter Tryd.func20, Tryd.ntmps20
  go_wp2_with fail
  refine HC.out.mono ?_
  rintro e w1 ⟨A1, c1, rfl, hown, hb1⟩
  have HO := Lib.hid hown
  have HB := Lib.hid hb1
  clear hown hb1
  rcases Nat.eq_zero_or_pos l.length with h0 | h0
  · have hl : l = [] := List.eq_nil_of_length_eq_zero h0
    subst hl
    go_wp2_with fail
    refine (Tryd.slices_Sort_string_none _ _ _).mono ?_
    rintro e w' ⟨rfl, rfl⟩
    go_wp2_with fail
    go_ret
    exact ⟨A1, c1, rfl, by simpa [ms] using HO.out, HB.out⟩
  · obtain ⟨g, rfl, hg1, hg2, hH⟩ := own_holds HO.out h0
    have HT := Lib.hid (Tryd.slices_Sort_string g 0 c1 l w1 hH hg2 (by omega))
    clear hH
    go_wp2_with fail
    refine HT.out.mono ?_
    rintro e w2 ⟨rfl, q, os, e2⟩
    have HS := Lib.hid (own_sorted HO.out (ms_len l) q os)
    have HSB := Lib.hid (own_sorted_below HO.out (ms_len l) HB.out.size q os)
    have e3 : w2 = sortWorld sv w1 g 0 q (ms l).toArray os := e2
    clear e2
    generalize sortWorld sv w1 g 0 q (ms l).toArray os = w3 at HS HSB e3
    subst e3
    go_wp2_with fail
    go_ret
    exact ⟨_, c1, rfl, HS.out.1, HB.out.trans HSB.out⟩

/-- A row of the call's own, compacted. -/
theorem compact_own {A : Option Addr} {n c : Nat} (l : List (List UInt8)) (B : Nat) (w : World) (h : w.ownsRow B 9 1 (.slice A n c) n ((ms l).map sv)) (hn : l.length = n) (hb : n ≤ 1099511627776) (hB : B ≤ w.heap.size) :
    Calls Tryd.prog 19 #[.slice A n c] w fun e w' =>
      ∃ A c, e = .returned (.slice A (rising l).length c) ∧ Rd w' A ((rising l).map sv) ∧ Below B w w' := by
  subst hn
  rcases Nat.eq_zero_or_pos l.length with h0 | h0
  · have hl : l = [] := List.eq_nil_of_length_eq_zero h0
    subst hl
    refine (Tryd.slices_Compact_string_empty A c w).mono ?_
    rintro e w' ⟨rfl, rfl⟩
    exact ⟨A, c, rfl, Rd.nil_ _ _, Below.refl _ _⟩
  · have hle := own_more h h0
    obtain ⟨g, hA, hle⟩ := hle
    have hlen : l.length = (ms l).length := (ms_len l).symm
    rw [hlen] at h h0 hle ⊢
    obtain ⟨g', hA', hg1, hg2, hH⟩ := own_holds h h0
    rw [hA] at hA'
    injection hA' with hA'
    injection hA' with hA' _ _
    subst hA'
    subst hA
    refine (Tryd.slices_Compact_string g 0 c (ms l) w hH (by omega) hle).mono ?_
    rintro e w' ⟨rfl, q, rfl⟩
    have hc : Lib.compact (ms l) = rising l := compact_sorted l
    rw [hc]
    have hl2 : (rising l ++ List.replicate ((ms l).length - (rising l).length) ([] : List UInt8)).length = (ms l).length := by
      have := Lib.compact_length_le (ms l)
      rw [hc] at this
      simp; omega
    have hs := own_sorted h hl2 q #[]
    have hsb := own_sorted_below h hl2 hB q #[]
    have e1 : sortWorld sv w g 0 q (rising l ++ List.replicate ((ms l).length - (rising l).length) ([] : List UInt8)).toArray #[] = putRow encStr (Sort.ahead w q) g 0 (rising l ++ List.replicate ((ms l).length - (rising l).length) []).toArray := by
      unfold sortWorld
      rw [grow_empty]
      rfl
    rw [e1] at hs hsb
    refine ⟨_, c, rfl, fun hx => ?_, hsb⟩
    obtain ⟨b, off, hA3, hb3, hc3⟩ := (Rd.of_own hs.1) (by simp at hx ⊢; omega)
    refine ⟨b, off, hA3, hb3, fun j u hu => hc3 j u ?_⟩
    rw [List.map_append, List.getElem?_append_left (by exact (List.getElem?_eq_some_iff.1 hu).1)]
    exact hu
end Go.Proofs.YtcodncddaemhlaaDoor
/- Contract: name.Sort. Lengths below 2^40. -/
namespace Go.Proofs.YtcodncddaemhlaaDoor
open Go.RowKit

/-- What Sort hands back. -/
def sortL (l : List (List UInt8)) : List (List UInt8) := if l.all goodName then rising l else []
def SortPost (l : List (List UInt8)) (w : World) (e : Ending) (w' : World) : Prop :=
  ∃ A c, e = .returned (.tuple #[.slice A (sortL l).length c, .int .i64 (namesErr l)]) ∧ Rd w' A ((sortL l).map sv) ∧ Below w.heap.size w w'
theorem nameErr_good {s : List UInt8} (h : goodName s = true) : nameErr s = 0 := by unfold nameErr; rw [if_pos h]
theorem nameErr_bad {s : List UInt8} (h : goodName s = false) : nameErr s = 3 := by unfold nameErr; rw [if_neg (by simp [h])]
theorem sort_bad {l : List (List UInt8)} {w : World} (h : l.all goodName = false) {e : Ending} (he : e = .returned (.tuple #[.slice none 0 0, .int .i64 3])) : SortPost l w e w :=
  ⟨none, 0, by rw [he]; simp [sortL, namesErr, h], by simpa [sortL, h] using Rd.nil_ w none, Below.refl _ _⟩

end Go.Proofs.YtcodncddaemhlaaDoor
