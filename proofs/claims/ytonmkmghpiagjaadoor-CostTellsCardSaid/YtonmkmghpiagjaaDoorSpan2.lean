/- Contracts: sums of times. Lengths below 2^63. -/
import Derived.Test.YtonmkmghpiagjaaDoorSpan1
namespace Go.Proofs.YtonmkmghpiagjaaDoor
open Go.RowKit

theorem run_fadd_some {P : Program} (t : TypeId) {a b r : Nat} (h : fadd a b = some r) (w : World) : (binOp .add t (.float .f64 a) (.float .f64 b)).run P w = .ok (.float .f64 r) w := run_float_arith w .add t .f64 a b r h
theorem run_fadd_none {P : Program} (t : TypeId) {a b : Nat} (h : fadd a b = none) (w : World) : ∃ q, (binOp .add t (.float .f64 a) (.float .f64 b)).run P w = .ok (.float .f64 (nanOf q)) w.drew := by
  refine ⟨w.tape w.drawn (.nanBits .f64 a b), ?_⟩
  have h' : FloatKind.f64.format.add a b = none := h
  simp [binOp, Op.floatArith, h', Question.forced, Question.cut, nanOf]
theorem nan_any (w : World) : Calls Tryd.prog 115 #[] w fun e w' => e = .returned (.float .f64 canonN) ∧ w = w' := by
  have HC : Hid ((9221120237041090561 : Int).toNat = canonN) := Lib.hid rfl
  go_enter Tryd.func115, Tryd.ntmps115
  go_wp2_with fail
  go_ret
  exact ⟨rfl, rfl⟩
theorem isNaN_any (b : Nat) (w : World) : Calls Tryd.prog 114 #[.float .f64 b] w fun e w' => e = .returned (.bool (isN b)) ∧ w = w' := by
  go_enter Tryd.func114, Tryd.ntmps114
  go_wp2_with fail
  go_ret
  exact ⟨rfl, rfl⟩
theorem Rd.fcell {w : World} {A : Option Addr} {l : List UInt64} (h : Rd w A (l.map fv)) {k : Nat} {x : UInt64} (hk : l[k]? = some x) : ∃ b off, A = some ⟨b, off, none⟩ ∧ w.cell? ⟨b, off + k, none⟩ = some (.float .f64 x.toNat) := by
  obtain ⟨b, off, hA, _, hc⟩ := h (by rw [List.length_map]; have := (List.getElem?_eq_some_iff.1 hk).1; omega)
  exact ⟨b, off, hA, hc k _ (by rw [List.getElem?_map, hk]; rfl)⟩
theorem take_snoc' {α : Type} {l : List α} {k : Nat} {x : α} (h : l[k]? = some x) : l.take (k + 1) = l.take k ++ [x] := by rw [List.take_add_one, h]; rfl
set_option maxHeartbeats 1000000 in
theorem tSum_any {A : Option Addr} {n c : Nat} (l : List UInt64) (w : World) (hr : Rd w A (l.map fv)) (hn : l.length = n) (hb : n ≤ 9223372036854775807) :
    Calls Tryd.prog 81 #[.slice A n c] w fun e w' => e = .returned (.float .f64 (sumT l)) ∧ Below w.heap.size w w' := by
  have HR := Lib.hid hr
  have HN := Lib.hid hn
  clear hr hn
  go_enter Tryd.func81, Tryd.ntmps81
  go_wp2_with fail
  go_loopw [3, 5, 8] (fun s _ i wr => ∃ k a : Nat, k ≤ n ∧ i = .int .i64 (k : Int) ∧ s = .float .f64 a ∧ Hid (SumIs (l.take k) a) ∧ Hid (Below w.heap.size w wr)) (fun _ _ i _ => n - (intOf i).toNat)
  case atStart => exact ⟨0, 0, by omega, rfl, rfl, Lib.hid sumIs_start, Lib.hid (Below.refl _ _)⟩
  case round =>
    obtain ⟨k, a, hk, rfl, rfl, hs, hbw⟩ := hrel
    by_cases hlt : k < n
    · obtain ⟨x, hx⟩ : ∃ x, l[k]? = some x := ⟨_, List.getElem?_eq_getElem (by rw [HN.out]; exact hlt)⟩
      obtain ⟨b, off, rfl, hc⟩ := (HR.out.below hbw.out).fcell hx
      have HT := Lib.hid (take_snoc' hx)
      clear hx
      cases hf : fadd a x.toNat with
      | some r =>
        have HS := Lib.hid (sumIs_add hs.out hf)
        have hrun := run_fadd_some (P := Tryd.prog) 56 hf
        have HBW := hbw
        clear hf hs hbw
        go_wp2_with fail
        go_roundw
        case rel => exact ⟨k + 1, r, by omega, by go_num, rfl, Lib.hid (by rw [HT.out]; exact HS.out), HBW⟩
        case measure => simp [intOf]; omega
      | none =>
        obtain ⟨q, hrun⟩ := run_fadd_none (P := Tryd.prog) 56 hf wr
        have HS := Lib.hid (sumIs_nan hs.out hf q)
        have HBW : Hid (Below w.heap.size w wr.drew) := Lib.hid ⟨hbw.out.os, hbw.out.tape, hbw.out.output, hbw.out.size, hbw.out.block⟩
        clear hf hs hbw
        go_wp2_with fail
        go_roundw
        case rel => exact ⟨k + 1, nanOf q, by omega, by go_num, rfl, Lib.hid (by rw [HT.out]; exact HS.out), HBW⟩
        case measure => simp [intOf]; omega
    · obtain rfl : k = n := by omega
      have hs' := hs.out
      rw [List.take_of_length_le (by rw [HN.out]; exact Nat.le_refl _)] at hs'
      cases hn : isN a with
      | true =>
        have HS := Lib.hid (sum_yes hs' hn)
        have HNN := Lib.hid hn
        clear hs' hs hn
        go_wp2_with fail
        refine (isNaN_any _ _).mono ?_
        rintro e w' ⟨rfl, rfl⟩
        rw [HNN.out]
        go_wp2_with fail
        refine (nan_any _).mono ?_
        rintro e w' ⟨rfl, rfl⟩
        rw [← HS.out]
        go_wp2_with fail
        go_ret
        exact ⟨rfl, hbw.out⟩
      | false =>
        have HS := Lib.hid (sum_no hs' hn)
        have HNN := Lib.hid hn
        clear hs' hs hn
        go_wp2_with fail
        refine (isNaN_any _ _).mono ?_
        rintro e w' ⟨rfl, rfl⟩
        rw [HNN.out]
        go_wp2_with fail
        go_ret
        exact ⟨by rw [HS.out]; rfl, hbw.out⟩
set_option maxHeartbeats 1000000 in
theorem rTimeSum_any {A : Option Addr} {n c : Nat} (l : List UInt64) (w : World) (hr : Rd w A (l.map fv)) (hn : l.length = n) (hb : n ≤ 9223372036854775807) :
    Calls Tryd.prog 41 #[.slice A n c] w fun e w' => e = .returned (.float .f64 (sumT l)) ∧ Below w.heap.size w w' := by
  have HR := Lib.hid hr
  have HN := Lib.hid hn
  have HC : Hid ((9221120237041090561 : Int).toNat = canonN) := Lib.hid rfl
  clear hr hn
  go_enter Tryd.func41, Tryd.ntmps41
  go_wp2_with fail
  go_loopw [3, 5, 8] (fun s _ i wr => ∃ k a : Nat, k ≤ n ∧ i = .int .i64 (k : Int) ∧ s = .float .f64 a ∧ Hid (SumIs (l.take k) a) ∧ Hid (Below w.heap.size w wr)) (fun _ _ i _ => n - (intOf i).toNat)
  case atStart => exact ⟨0, 0, by omega, rfl, rfl, Lib.hid sumIs_start, Lib.hid (Below.refl _ _)⟩
  case round =>
    obtain ⟨k, a, hk, rfl, rfl, hs, hbw⟩ := hrel
    by_cases hlt : k < n
    · obtain ⟨x, hx⟩ : ∃ x, l[k]? = some x := ⟨_, List.getElem?_eq_getElem (by rw [HN.out]; exact hlt)⟩
      obtain ⟨b, off, rfl, hc⟩ := (HR.out.below hbw.out).fcell hx
      have HT := Lib.hid (take_snoc' hx)
      clear hx
      cases hf : fadd a x.toNat with
      | some r =>
        have HS := Lib.hid (sumIs_add hs.out hf)
        have hrun := run_fadd_some (P := Tryd.prog) 56 hf
        have HBW := hbw
        clear hf hs hbw
        go_wp2_with fail
        go_roundw
        case rel => exact ⟨k + 1, r, by omega, by go_num, rfl, Lib.hid (by rw [HT.out]; exact HS.out), HBW⟩
        case measure => simp [intOf]; omega
      | none =>
        obtain ⟨q, hrun⟩ := run_fadd_none (P := Tryd.prog) 56 hf wr
        have HS := Lib.hid (sumIs_nan hs.out hf q)
        have HBW : Hid (Below w.heap.size w wr.drew) := Lib.hid ⟨hbw.out.os, hbw.out.tape, hbw.out.output, hbw.out.size, hbw.out.block⟩
        clear hf hs hbw
        go_wp2_with fail
        go_roundw
        case rel => exact ⟨k + 1, nanOf q, by omega, by go_num, rfl, Lib.hid (by rw [HT.out]; exact HS.out), HBW⟩
        case measure => simp [intOf]; omega
    · obtain rfl : k = n := by omega
      have hs' := hs.out
      rw [List.take_of_length_le (by rw [HN.out]; exact Nat.le_refl _)] at hs'
      cases hn : isN a with
      | true =>
        have HS := Lib.hid (sum_yes hs' hn)
        have hn' : (FloatKind.f64.format.order a a != some .eq) = true := hn
        clear hs' hs hn
        go_wp2_with fail
        go_ret
        exact ⟨by rw [HS.out]; rfl, hbw.out⟩
      | false =>
        have HS := Lib.hid (sum_no hs' hn)
        have hn' : (FloatKind.f64.format.order a a != some .eq) = false := hn
        clear hs' hs hn
        go_wp2_with fail
        go_ret
        exact ⟨by rw [HS.out]; rfl, hbw.out⟩
end Go.Proofs.YtonmkmghpiagjaaDoor
