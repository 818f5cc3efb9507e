/- Contracts: slices.Grow of nil; slices.Concat of two. Lengths below 2^40. -/
import Derived.Test.YtoandhhkmkgmaaaName5
import Derived.Lib.AppendZeros
namespace Go.Proofs.Ytoandhhkmkgmaaa
open Go.RowKit

theorem zeros_size (n : Nat) : (Builtin.zeroCells (Value.string ⟨#[]⟩).cells n).size = n := by
  show ((Array.range (n * 1)).map _).size = n
  simp
theorem grow_row {w : World} {n : Nat} (hn : n ≤ 1099511627776) :
    (w.drew.alloc (.cells (Builtin.zeroCells (Value.string ⟨#[]⟩).cells n ++ Builtin.zeroCells (Value.string ⟨#[]⟩).cells (grownCap w n 0 9 - n)) 9)).ownsRow w.heap.size 9 1 (.slice (some ⟨w.heap.size, 0, none⟩) 0 (grownCap w n 0 9)) 0 [] := by
  have h1 := grownCap_ge w n 0 9
  have h2 := grownCap_le_maxLen w n 0 9 (by unfold maxLen; omega)
  have h0 : ∀ o : Obj, (w.drew.alloc o).heap[w.heap.size]? = some o := fun o => by
    show (w.heap.push o)[w.heap.size]? = some o
    simp
  refine ⟨rfl, .inr ⟨w.heap.size, _, _, rfl, Nat.le_refl _, h0 _, by omega, h2, ?_, by simp⟩⟩
  rw [Array.size_append, zeros_size, zeros_size]
  omega

set_option maxRecDepth 100000 in
set_option maxHeartbeats 1000000 in
theorem grow_any (n : Nat) (w : World) (hb : n ≤ 1099511627776) :
    Calls Try.prog 69 #[.slice none 0 0, .int .i64 (n : Int)] w fun e w' =>
      ∃ A c, e = .returned (.slice A 0 c) ∧ w'.ownsRow w.heap.size 9 1 (.slice A 0 c) 0 [] ∧ Below w.heap.size w w' := by
  obtain ⟨ht, i, hi, hz, hs1, hbb, hzs⟩ := elStr
  by_cases h0 : n = 0
  · subst h0
    clear hz hs1 hbb hzs ht hi
    go_enter Try.func69, Try.ntmps69
    go_wp2_with fail
    go_ret
    exact ⟨none, 0, rfl, World.ownsRow_nil _ _ _ _, Below.refl _ _⟩
  · have HA := Lib.hid (Lib.run_append_nil_zeros (P := Try.prog) w 32 3 32 9 i (.string ⟨#[]⟩) .i64 .i64 ht Try.underlying3 hi hz n (by omega) (by omega) (by omega) (by rw [hbb]; omega))
    have HR := Lib.hid (grow_row (w := w) (n := n) hb)
    have HG := Lib.hid (grownCap_ge w n 0 9)
    have HB : Hid (Below w.heap.size w (w.drew.alloc (.cells (Builtin.zeroCells (Value.string ⟨#[]⟩).cells n ++ Builtin.zeroCells (Value.string ⟨#[]⟩).cells (grownCap w n 0 9 - n)) 9))) := Lib.hid (below_new (below_of_drewN w 1) _)
    clear hz hs1 hbb hzs ht hi
    generalize (w.drew.alloc (.cells (Builtin.zeroCells (Value.string ⟨#[]⟩).cells n ++ Builtin.zeroCells (Value.string ⟨#[]⟩).cells (grownCap w n 0 9 - n)) 9)) = w1 at HA HR HB
    have hg := HG.out
    generalize grownCap w n 0 9 = cc at HA HR HG hg
    have hpos : 0 < n := by omega
    go_enter Try.func69, Try.ntmps69
    go_wp2_with (at_builtin; refine Lib.wpList_append_run _ rfl _ _ _ _ rfl _ _ rfl rfl _ _ HA.out ?_)
    go_ret
    exact ⟨_, _, rfl, HR.out, HB.out⟩

def CatRel (w : World) (n1 n2 : Nat) (l1 l2 : List (List UInt8)) (k : Nat) (v : Value) (wr : World) : Prop :=
  (k = 0 ∧ ∃ A c, v = .slice A 0 c ∧ wr.ownsRow w.heap.size 9 1 (.slice A 0 c) 0 [] ∧ Below w.heap.size w wr) ∨
  (k = 1 ∧ ∃ A c, v = .slice A n1 c ∧ wr.ownsRow w.heap.size 9 1 (.slice A n1 c) n1 (l1.map sv) ∧ Below w.heap.size w wr) ∨
  (k = 2 ∧ ∃ A c, v = .slice A (n1 + n2) c ∧ wr.ownsRow w.heap.size 9 1 (.slice A (n1 + n2) c) (n1 + n2) ((l1 ++ l2).map sv) ∧ Below w.heap.size w wr)
set_option maxRecDepth 100000 in
set_option maxHeartbeats 2000000 in
theorem concat_any {b : Nat} {A1 A2 : Option Addr} {n1 c1 n2 c2 : Nat} (l1 l2 : List (List UInt8)) (w : World) (hb : b < w.heap.size)
    (e1 : w.cell? ⟨b, 0, none⟩ = some (.slice A1 n1 c1)) (e2 : w.cell? ⟨b, 1, none⟩ = some (.slice A2 n2 c2)) (h1 : Rd w A1 (l1.map sv)) (h2 : Rd w A2 (l2.map sv)) (hn1 : l1.length = n1) (hn2 : l2.length = n2) (hN : n1 + n2 ≤ 1099511627776) :
    Calls Try.prog 43 #[.slice (some ⟨b, 0, none⟩) 2 2] w fun e w' =>
      ∃ A c, e = .returned (.slice A (n1 + n2) c) ∧ w'.ownsRow w.heap.size 9 1 (.slice A (n1 + n2) c) (n1 + n2) ((l1 ++ l2).map sv) ∧ Below w.heap.size w w' := by
  have H1 := Lib.hid h1
  have H2 := Lib.hid h2
  have HN1 := Lib.hid hn1
  have HN2 := Lib.hid hn2
  have HG := Lib.hid (grow_any (n1 + n2) w hN)
  have E1 := Lib.hid e1
  have E2 := Lib.hid e2
  clear h1 h2 hn1 hn2
  have e2' : w.cell? ⟨b, 0 + 1, none⟩ = some (.slice A2 n2 c2) := e2
  go_enter Try.func43, Try.ntmps43
  go_wp2_with fail
  go_loop [3, 5, 11] (fun s _ i => ∃ k m : Nat, i = .int .i64 (k : Int) ∧ s = .int .i64 (m : Int) ∧ ((k = 0 ∧ m = 0) ∨ (k = 1 ∧ n1 = m) ∨ (k = 2 ∧ n1 + n2 = m))) (fun _ _ i => 2 - (intOf i).toNat)
  case atStart => exact ⟨0, 0, rfl, rfl, .inl ⟨rfl, rfl⟩⟩
  case round =>
    obtain ⟨k, m, rfl, rfl, ⟨rfl, rfl⟩ | ⟨rfl, rfl⟩ | ⟨rfl, rfl⟩⟩ := hrel
    · go_wp2_with fail
      go_round
      case rel => exact ⟨1, n1, rfl, by go_num, .inr (.inl ⟨rfl, rfl⟩)⟩
      case measure => simp [intOf]
    · go_wp2_with fail
      go_round
      case rel => exact ⟨2, n1 + n2, rfl, by go_num, .inr (.inr ⟨rfl, rfl⟩)⟩
      case measure => simp [intOf]
    · clear e1 e2 e2'
      have hcast : ((n1 + n2 : Nat) : Int) = (n1 : Int) + (n2 : Int) := by omega
      go_wp2_with fail
      refine Calls.mono (by have := HG.out; rw [hcast] at this; exact this) ?_
      rintro e w1 ⟨A0, c0, rfl, hown, hb1⟩
      have hrel0 : CatRel w n1 n2 l1 l2 0 (.slice A0 0 c0) w1 := .inl ⟨rfl, A0, c0, rfl, hown, hb1⟩
      have HR0 := Lib.hid hrel0
      clear hown hb1 hrel0 hcast
      go_wp2_with fail
      go_loopw [6, 8, 27] (fun v _ i wr => ∃ k : Nat, i = .int .i64 (k : Int) ∧ CatRel w n1 n2 l1 l2 k v wr) (fun _ _ i _ => 2 - (intOf i).toNat)
      case atStart => exact ⟨0, rfl, HR0.out⟩
      case round =>
        obtain ⟨k, rfl, hk⟩ := hrel
        rcases hk with ⟨rfl, A, c, rfl, hown, hbl⟩ | ⟨rfl, A, c, rfl, hown, hbl⟩ | ⟨rfl, A, c, rfl, hown, hbl⟩
        · have f1 := (hbl.cell (p := ⟨b, 0, none⟩) hb).trans E1.out
          have HO := Lib.hid hown
          have HB := Lib.hid hbl
          have HRD := Lib.hid (H1.out.below hbl)
          have hsz := hbl.size
          clear hown hbl
          go_wp2_with (at_builtin; refine wpList_cat elStr wr _ _ w.heap.size A 0 c [] A1 n1 c1 (l1.map sv) HO.out HRD.out (by rw [List.length_map]; exact HN1.out) (sv_one l1) hsz (by omega) (by omega) rfl rfl rfl rfl ?_; intro A' c' w5 hown5 hb5)
          rw [Nat.zero_add, List.nil_append] at hown5
          have HO5 := Lib.hid hown5
          have HB5 := Lib.hid (HB.out.trans hb5)
          clear hown5 hb5 f1 hsz
          go_roundw
          case rel => exact ⟨1, rfl, .inr (.inl ⟨rfl, A', c', rfl, HO5.out, HB5.out⟩)⟩
          case measure => simp [intOf]
        · have f1 : wr.cell? ⟨b, 0 + 1, none⟩ = some (.slice A2 n2 c2) := (hbl.cell (p := ⟨b, 1, none⟩) hb).trans E2.out
          have HO := Lib.hid hown
          have HB := Lib.hid hbl
          have HRD := Lib.hid (H2.out.below hbl)
          have hsz := hbl.size
          clear hown hbl
          go_wp2_with (at_builtin; refine wpList_cat elStr wr _ _ w.heap.size A n1 c (l1.map sv) A2 n2 c2 (l2.map sv) HO.out HRD.out (by rw [List.length_map]; exact HN2.out) (sv_one l2) hsz (by omega) (by omega) rfl rfl rfl rfl ?_; intro A' c' w5 hown5 hb5)
          rw [← List.map_append] at hown5
          have HO5 := Lib.hid hown5
          have HB5 := Lib.hid (HB.out.trans hb5)
          clear hown5 hb5 f1 hsz
          go_roundw
          case rel => exact ⟨2, rfl, .inr (.inr ⟨rfl, A', c', rfl, HO5.out, HB5.out⟩)⟩
          case measure => simp [intOf]
        · have HO := Lib.hid hown
          have HB := Lib.hid hbl
          clear hown hbl
          go_wp2_with fail
          go_ret
          exact ⟨A, c, rfl, HO.out, HB.out⟩
end Go.Proofs.Ytoandhhkmkgmaaa
