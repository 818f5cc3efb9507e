/- slices.IndexFunc, slices.ContainsFunc at the instances of this seat, against any predicate that leaves what lay as it was. Lengths below 2^63. -/
import Derived.Test.YtonmkmghpiagjaaDoorRows
import Derived.Test.YtonmkmghpiagjaaDoorBase
import Derived.WalkKit
import Derived.Outline
import Derived.Lib.Hide
namespace Go.Proofs.YtonmkmghpiagjaaDoor
open Go.RowKit

def IdxAny {α : Type} (p : α → Bool) (xs : List α) (w : World) (e : Ending) (w' : World) : Prop := ∃ i : Int, e = .returned (.int .i64 i) ∧ decide (0 ≤ i) = xs.any p ∧ Below w.heap.size w w'
theorem any_hit {α : Type} {p : α → Bool} {xs : List α} {k : Nat} {y : α} (hk : xs[k]? = some y) (h : p y = true) : xs.any p = true := List.any_eq_true.2 ⟨y, List.mem_of_getElem? hk, h⟩
theorem any_miss {α : Type} {p : α → Bool} {xs : List α} (h : ∀ (j : Nat) (x : α), xs[j]? = some x → p x = false) : xs.any p = false := by
  rw [Bool.eq_false_iff]
  intro hc
  obtain ⟨x, hx, hp⟩ := List.any_eq_true.1 hc
  obtain ⟨j, hj⟩ := List.mem_iff_getElem?.1 hx
  rw [h j x hj] at hp
  cases hp

set_option maxHeartbeats 1000000 in
theorem if_Row {α : Type} (enc : α → Value) (p : α → Bool) (g : FuncId) (lb : Array Value) (eg : ∀ args w, (callFunc g args).run Tryd.prog w = .ok (.enter g args) w) {A : Option Addr} {n c : Nat} (xs : List α) (w : World)
    (hx : Rd w A (xs.map enc)) (hn : xs.length = n) (hb : n ≤ 9223372036854775807)
    (hp : ∀ x, x ∈ xs → ∀ W, Below w.heap.size w W → Calls Tryd.prog g (#[enc x] ++ lb) W fun e w' => e = .returned (.bool (p x)) ∧ Below W.heap.size W w') :
    Calls Tryd.prog 74 #[.slice A n c, .func (.func g) #[] lb] w (IdxAny p xs w) := by
  have HX := Lib.hid hx
  have HN := Lib.hid hn
  have HP := Lib.hid hp
  clear hx hn hp
  go_enter Tryd.func74, Tryd.ntmps74
  go_wp2_with fail
  go_loopw [5, 8] (fun _ i wr => ∃ k : Nat, k ≤ n ∧ i = .int .i64 (k : Int) ∧ Hid (∀ (j : Nat) (x : α), j < k → xs[j]? = some x → p x = false) ∧ Hid (Below w.heap.size w wr)) (fun _ i _ => n - (intOf i).toNat)
  case atStart => exact ⟨0, by omega, rfl, Lib.hid (fun j x hj => absurd hj (Nat.not_lt_zero _)), Lib.hid (Below.refl _ _)⟩
  case round =>
    obtain ⟨k, hk, rfl, hno, hbw⟩ := hrel
    by_cases hlt : k < n
    · have hlt' : k < xs.length := by have := HN.out; omega
      obtain ⟨y, hy⟩ : ∃ y, xs[k]? = some y := ⟨_, List.getElem?_eq_getElem hlt'⟩
      obtain ⟨b, off, rfl, _, hcc⟩ := (HX.out.below hbw.out) (by rw [List.length_map]; omega)
      have hc := hcc k (enc y) (by rw [List.getElem?_map, hy]; rfl)
      have HCALL := Lib.hid (HP.out y (List.mem_of_getElem? hy) wr hbw.out)
      have HBW := hbw
      have HY := Lib.hid hy
      clear hy hlt' hbw hcc
      cases hq : p y with
      | true =>
        have HQ := Lib.hid hq
        clear hq
        go_wp2_with fail
        refine HCALL.out.mono ?_
        rintro e w2 ⟨rfl, hb2⟩
        rw [HQ.out]
        have HB2 := Lib.hid (below_then HBW.out hb2)
        clear hb2 hc
        go_wp2_with fail
        go_ret
        exact ⟨(k : Int), rfl, by rw [any_hit HY.out HQ.out]; simp, HB2.out⟩
      | false =>
        have HQ := Lib.hid hq
        clear hq
        go_wp2_with fail
        refine HCALL.out.mono ?_
        rintro e w2 ⟨rfl, hb2⟩
        rw [HQ.out]
        have HB2 := Lib.hid (below_then HBW.out hb2)
        clear hb2 hc
        go_wp2_with fail
        go_roundw
        case rel => exact ⟨k + 1, by omega, by go_num, Lib.hid (fun j x hj hx => by
          rcases Nat.lt_or_ge j k with h | h
          · exact hno.out j x h hx
          · obtain rfl : j = k := by omega
            rw [HY.out] at hx
            injection hx with hx
            subst hx
            exact HQ.out), HB2⟩
        case measure => simp [intOf]; omega
    · obtain rfl : k = n := by omega
      go_wp2_with fail
      go_ret
      exact ⟨-1, rfl, by rw [any_miss (fun j x hx => hno.out j x (by have := (List.getElem?_eq_some_iff.1 hx).1; have := HN.out; omega) hx)]; rfl, hbw.out⟩
theorem cf_Row {α : Type} (enc : α → Value) (p : α → Bool) (g : FuncId) (lb : Array Value) (eg : ∀ args w, (callFunc g args).run Tryd.prog w = .ok (.enter g args) w) {A : Option Addr} {n c : Nat} (xs : List α) (w : World)
    (hx : Rd w A (xs.map enc)) (hn : xs.length = n) (hb : n ≤ 9223372036854775807)
    (hp : ∀ x, x ∈ xs → ∀ W, Below w.heap.size w W → Calls Tryd.prog g (#[enc x] ++ lb) W fun e w' => e = .returned (.bool (p x)) ∧ Below W.heap.size W w') :
    Calls Tryd.prog 30 #[.slice A n c, .func (.func g) #[] lb] w fun e w' => e = .returned (.bool (xs.any p)) ∧ Below w.heap.size w w' := by
  have H := Lib.hid (if_Row (c := c) enc p g lb eg xs w hx hn hb hp)
  clear hx hn hp
  go_enter Tryd.func30, Tryd.ntmps30
  go_wp2_with fail
  refine H.out.mono ?_
  rintro e w2 ⟨i, rfl, hi, hb2⟩
  have HI := Lib.hid hi
  clear hi
  by_cases h0 : 0 ≤ i
  · go_wp2_with fail
    go_ret
    exact ⟨ret_bool (by rw [← HI.out] <;> simp [h0]), hb2⟩
  · go_wp2_with fail
    go_ret
    exact ⟨ret_bool (by rw [← HI.out] <;> simp [h0]), hb2⟩

set_option maxHeartbeats 1000000 in
theorem if_Err {α : Type} (enc : α → Value) (p : α → Bool) (g : FuncId) (lb : Array Value) (eg : ∀ args w, (callFunc g args).run Tryd.prog w = .ok (.enter g args) w) {A : Option Addr} {n c : Nat} (xs : List α) (w : World)
    (hx : Rd w A (xs.map enc)) (hn : xs.length = n) (hb : n ≤ 9223372036854775807)
    (hp : ∀ x, x ∈ xs → ∀ W, Below w.heap.size w W → Calls Tryd.prog g (#[enc x] ++ lb) W fun e w' => e = .returned (.bool (p x)) ∧ Below W.heap.size W w') :
    Calls Tryd.prog 105 #[.slice A n c, .func (.func g) #[] lb] w (IdxAny p xs w) := by
  have HX := Lib.hid hx
  have HN := Lib.hid hn
  have HP := Lib.hid hp
  clear hx hn hp
  go_enter Tryd.func105, Tryd.ntmps105
  go_wp2_with fail
  go_loopw [5, 8] (fun _ i wr => ∃ k : Nat, k ≤ n ∧ i = .int .i64 (k : Int) ∧ Hid (∀ (j : Nat) (x : α), j < k → xs[j]? = some x → p x = false) ∧ Hid (Below w.heap.size w wr)) (fun _ i _ => n - (intOf i).toNat)
  case atStart => exact ⟨0, by omega, rfl, Lib.hid (fun j x hj => absurd hj (Nat.not_lt_zero _)), Lib.hid (Below.refl _ _)⟩
  case round =>
    obtain ⟨k, hk, rfl, hno, hbw⟩ := hrel
    by_cases hlt : k < n
    · have hlt' : k < xs.length := by have := HN.out; omega
      obtain ⟨y, hy⟩ : ∃ y, xs[k]? = some y := ⟨_, List.getElem?_eq_getElem hlt'⟩
      obtain ⟨b, off, rfl, _, hcc⟩ := (HX.out.below hbw.out) (by rw [List.length_map]; omega)
      have hc := hcc k (enc y) (by rw [List.getElem?_map, hy]; rfl)
      have HCALL := Lib.hid (HP.out y (List.mem_of_getElem? hy) wr hbw.out)
      have HBW := hbw
      have HY := Lib.hid hy
      clear hy hlt' hbw hcc
      cases hq : p y with
      | true =>
        have HQ := Lib.hid hq
        clear hq
        go_wp2_with fail
        refine HCALL.out.mono ?_
        rintro e w2 ⟨rfl, hb2⟩
        rw [HQ.out]
        have HB2 := Lib.hid (below_then HBW.out hb2)
        clear hb2 hc
        go_wp2_with fail
        go_ret
        exact ⟨(k : Int), rfl, by rw [any_hit HY.out HQ.out]; simp, HB2.out⟩
      | false =>
        have HQ := Lib.hid hq
        clear hq
        go_wp2_with fail
        refine HCALL.out.mono ?_
        rintro e w2 ⟨rfl, hb2⟩
        rw [HQ.out]
        have HB2 := Lib.hid (below_then HBW.out hb2)
        clear hb2 hc
        go_wp2_with fail
        go_roundw
        case rel => exact ⟨k + 1, by omega, by go_num, Lib.hid (fun j x hj hx => by
          rcases Nat.lt_or_ge j k with h | h
          · exact hno.out j x h hx
          · obtain rfl : j = k := by omega
            rw [HY.out] at hx
            injection hx with hx
            subst hx
            exact HQ.out), HB2⟩
        case measure => simp [intOf]; omega
    · obtain rfl : k = n := by omega
      go_wp2_with fail
      go_ret
      exact ⟨-1, rfl, by rw [any_miss (fun j x hx => hno.out j x (by have := (List.getElem?_eq_some_iff.1 hx).1; have := HN.out; omega) hx)]; rfl, hbw.out⟩
theorem cf_Err {α : Type} (enc : α → Value) (p : α → Bool) (g : FuncId) (lb : Array Value) (eg : ∀ args w, (callFunc g args).run Tryd.prog w = .ok (.enter g args) w) {A : Option Addr} {n c : Nat} (xs : List α) (w : World)
    (hx : Rd w A (xs.map enc)) (hn : xs.length = n) (hb : n ≤ 9223372036854775807)
    (hp : ∀ x, x ∈ xs → ∀ W, Below w.heap.size w W → Calls Tryd.prog g (#[enc x] ++ lb) W fun e w' => e = .returned (.bool (p x)) ∧ Below W.heap.size W w') :
    Calls Tryd.prog 69 #[.slice A n c, .func (.func g) #[] lb] w fun e w' => e = .returned (.bool (xs.any p)) ∧ Below w.heap.size w w' := by
  have H := Lib.hid (if_Err (c := c) enc p g lb eg xs w hx hn hb hp)
  clear hx hn hp
  go_enter Tryd.func69, Tryd.ntmps69
  go_wp2_with fail
  refine H.out.mono ?_
  rintro e w2 ⟨i, rfl, hi, hb2⟩
  have HI := Lib.hid hi
  clear hi
  by_cases h0 : 0 ≤ i
  · go_wp2_with fail
    go_ret
    exact ⟨ret_bool (by rw [← HI.out] <;> simp [h0]), hb2⟩
  · go_wp2_with fail
    go_ret
    exact ⟨ret_bool (by rw [← HI.out] <;> simp [h0]), hb2⟩

set_option maxHeartbeats 1000000 in
theorem if_F64 {α : Type} (enc : α → Value) (p : α → Bool) (g : FuncId) (lb : Array Value) (eg : ∀ args w, (callFunc g args).run Tryd.prog w = .ok (.enter g args) w) {A : Option Addr} {n c : Nat} (xs : List α) (w : World)
    (hx : Rd w A (xs.map enc)) (hn : xs.length = n) (hb : n ≤ 9223372036854775807)
    (hp : ∀ x, x ∈ xs → ∀ W, Below w.heap.size w W → Calls Tryd.prog g (#[enc x] ++ lb) W fun e w' => e = .returned (.bool (p x)) ∧ Below W.heap.size W w') :
    Calls Tryd.prog 138 #[.slice A n c, .func (.func g) #[] lb] w (IdxAny p xs w) := by
  have HX := Lib.hid hx
  have HN := Lib.hid hn
  have HP := Lib.hid hp
  clear hx hn hp
  go_enter Tryd.func138, Tryd.ntmps138
  go_wp2_with fail
  go_loopw [5, 8] (fun _ i wr => ∃ k : Nat, k ≤ n ∧ i = .int .i64 (k : Int) ∧ Hid (∀ (j : Nat) (x : α), j < k → xs[j]? = some x → p x = false) ∧ Hid (Below w.heap.size w wr)) (fun _ i _ => n - (intOf i).toNat)
  case atStart => exact ⟨0, by omega, rfl, Lib.hid (fun j x hj => absurd hj (Nat.not_lt_zero _)), Lib.hid (Below.refl _ _)⟩
  case round =>
    obtain ⟨k, hk, rfl, hno, hbw⟩ := hrel
    by_cases hlt : k < n
    · have hlt' : k < xs.length := by have := HN.out; omega
      obtain ⟨y, hy⟩ : ∃ y, xs[k]? = some y := ⟨_, List.getElem?_eq_getElem hlt'⟩
      obtain ⟨b, off, rfl, _, hcc⟩ := (HX.out.below hbw.out) (by rw [List.length_map]; omega)
      have hc := hcc k (enc y) (by rw [List.getElem?_map, hy]; rfl)
      have HCALL := Lib.hid (HP.out y (List.mem_of_getElem? hy) wr hbw.out)
      have HBW := hbw
      have HY := Lib.hid hy
      clear hy hlt' hbw hcc
      cases hq : p y with
      | true =>
        have HQ := Lib.hid hq
        clear hq
        go_wp2_with fail
        refine HCALL.out.mono ?_
        rintro e w2 ⟨rfl, hb2⟩
        rw [HQ.out]
        have HB2 := Lib.hid (below_then HBW.out hb2)
        clear hb2 hc
        go_wp2_with fail
        go_ret
        exact ⟨(k : Int), rfl, by rw [any_hit HY.out HQ.out]; simp, HB2.out⟩
      | false =>
        have HQ := Lib.hid hq
        clear hq
        go_wp2_with fail
        refine HCALL.out.mono ?_
        rintro e w2 ⟨rfl, hb2⟩
        rw [HQ.out]
        have HB2 := Lib.hid (below_then HBW.out hb2)
        clear hb2 hc
        go_wp2_with fail
        go_roundw
        case rel => exact ⟨k + 1, by omega, by go_num, Lib.hid (fun j x hj hx => by
          rcases Nat.lt_or_ge j k with h | h
          · exact hno.out j x h hx
          · obtain rfl : j = k := by omega
            rw [HY.out] at hx
            injection hx with hx
            subst hx
            exact HQ.out), HB2⟩
        case measure => simp [intOf]; omega
    · obtain rfl : k = n := by omega
      go_wp2_with fail
      go_ret
      exact ⟨-1, rfl, by rw [any_miss (fun j x hx => hno.out j x (by have := (List.getElem?_eq_some_iff.1 hx).1; have := HN.out; omega) hx)]; rfl, hbw.out⟩
theorem cf_F64 {α : Type} (enc : α → Value) (p : α → Bool) (g : FuncId) (lb : Array Value) (eg : ∀ args w, (callFunc g args).run Tryd.prog w = .ok (.enter g args) w) {A : Option Addr} {n c : Nat} (xs : List α) (w : World)
    (hx : Rd w A (xs.map enc)) (hn : xs.length = n) (hb : n ≤ 9223372036854775807)
    (hp : ∀ x, x ∈ xs → ∀ W, Below w.heap.size w W → Calls Tryd.prog g (#[enc x] ++ lb) W fun e w' => e = .returned (.bool (p x)) ∧ Below W.heap.size W w') :
    Calls Tryd.prog 109 #[.slice A n c, .func (.func g) #[] lb] w fun e w' => e = .returned (.bool (xs.any p)) ∧ Below w.heap.size w w' := by
  have H := Lib.hid (if_F64 (c := c) enc p g lb eg xs w hx hn hb hp)
  clear hx hn hp
  go_enter Tryd.func109, Tryd.ntmps109
  go_wp2_with fail
  refine H.out.mono ?_
  rintro e w2 ⟨i, rfl, hi, hb2⟩
  have HI := Lib.hid hi
  clear hi
  by_cases h0 : 0 ≤ i
  · go_wp2_with fail
    go_ret
    exact ⟨ret_bool (by rw [← HI.out] <;> simp [h0]), hb2⟩
  · go_wp2_with fail
    go_ret
    exact ⟨ret_bool (by rw [← HI.out] <;> simp [h0]), hb2⟩
end Go.Proofs.YtonmkmghpiagjaaDoor
