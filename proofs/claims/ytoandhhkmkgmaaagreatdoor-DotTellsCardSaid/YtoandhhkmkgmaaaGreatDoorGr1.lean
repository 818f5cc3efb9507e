/- Contracts: cmp.Compare at numbers and at texts, cmp.Or, graph.order. No condition. -/
import Derived.Test.YtoandhhkmkgmaaaGreatDoorGrPlain
import Derived.Test.YtoandhhkmkgmaaaGreatDoorQuiet
import Derived.Deep.RegionHeld3
namespace Go.Proofs.YtoandhhkmkgmaaaGreatDoor
open Go.RowKit

theorem iIsNaN_any (a : Int) (w : World) : Calls Tryz.prog 215 #[.int .i64 a] w fun e w' => e = .returned (.bool false) ∧ w = w' := by
  go_enter Tryz.func215, Tryz.ntmps215
  go_wp2_with fail
  go_ret
  exact ⟨by simp, rfl⟩
def cmpI (a b : Int) : Int := if a < b then -1 else if b < a then 1 else 0
theorem cmpI_any (a b : Int) (w : World) : Calls Tryz.prog 197 #[.int .i64 a, .int .i64 b] w fun e w' => e = .returned (.int .i64 (cmpI a b)) ∧ w = w' := by
  have H1 := Lib.hid iIsNaN_any
  rcases Int.lt_trichotomy a b with h | h | h
  · have HE : Hid (-1 = cmpI a b) := Lib.hid (by unfold cmpI; rw [if_pos h])
    go_enter Tryz.func197, Tryz.ntmps197
    go_wp2_with fail
    refine (H1.out _ _).mono ?_
    rintro e w' ⟨rfl, rfl⟩
    go_wp2_with fail
    refine (H1.out _ _).mono ?_
    rintro e w' ⟨rfl, rfl⟩
    go_wp2_with fail
    go_ret
    exact ⟨ret_int HE.out, rfl⟩
  · subst h
    have HE : Hid (0 = cmpI a a) := Lib.hid (by unfold cmpI; rw [if_neg (by omega), if_neg (by omega)])
    go_enter Tryz.func197, Tryz.ntmps197
    go_wp2_with fail
    refine (H1.out _ _).mono ?_
    rintro e w' ⟨rfl, rfl⟩
    go_wp2_with fail
    refine (H1.out _ _).mono ?_
    rintro e w' ⟨rfl, rfl⟩
    go_wp2_with fail
    go_ret
    exact ⟨ret_int HE.out, rfl⟩
  · have HE : Hid (1 = cmpI a b) := Lib.hid (by unfold cmpI; rw [if_neg (by omega), if_pos h])
    have h2 : ¬ a < b := by omega
    go_enter Tryz.func197, Tryz.ntmps197
    go_wp2_with fail
    refine (H1.out _ _).mono ?_
    rintro e w' ⟨rfl, rfl⟩
    go_wp2_with fail
    refine (H1.out _ _).mono ?_
    rintro e w' ⟨rfl, rfl⟩
    go_wp2_with fail
    go_ret
    exact ⟨ret_int HE.out, rfl⟩
theorem eq_sv2 (x y : List UInt8) : ((⟨x.toArray⟩ : ByteArray).toList == (⟨y.toArray⟩ : ByteArray).toList) = decide (x = y) := by
  rw [Lib.toList_data, Lib.toList_data]
  by_cases h : x = y
  · subst h; simp
  · simp [h]
def cmpT (x y : List UInt8) : Int := if x < y then -1 else if y < x then 1 else 0
theorem cmpT_any (x y : List UInt8) (w : World) : Calls Tryz.prog 158 #[sv x, sv y] w fun e w' => e = .returned (.int .i64 (cmpT x y)) ∧ w = w' := by
  have HX := Lib.hid (fun W => cIsNaN_any x W)
  have HY := Lib.hid (fun W => cIsNaN_any y W)
  have hl := less_sv x y
  have hr := less_sv y x
  have he := eq_sv2 x y
  unfold sv at *
  generalize (⟨x.toArray⟩ : ByteArray) = b at *
  generalize (⟨y.toArray⟩ : ByteArray) = d at *
  by_cases h1 : x < y
  · have HE : Hid (-1 = cmpT x y) := Lib.hid (by unfold cmpT; rw [if_pos h1])
    rw [decide_eq_true h1] at hl
    clear hr h1 he
    go_enter Tryz.func158, Tryz.ntmps158
    go_wp2_with fail
    refine (HX.out _).mono ?_
    rintro e w' ⟨rfl, rfl⟩
    go_wp2_with fail
    refine (HY.out _).mono ?_
    rintro e w' ⟨rfl, rfl⟩
    go_wp2_with fail
    go_ret
    exact ⟨ret_int HE.out, rfl⟩
  · by_cases h2 : y < x
    · have HE : Hid (1 = cmpT x y) := Lib.hid (by unfold cmpT; rw [if_neg h1, if_pos h2])
      rw [decide_eq_false h1] at hl
      rw [decide_eq_true h2] at hr
      rw [decide_eq_false (fun e => h1 (by subst e; exact absurd h2 (slt_irrefl _)))] at he
      clear h1 h2
      go_enter Tryz.func158, Tryz.ntmps158
      go_wp2_with fail
      refine (HX.out _).mono ?_
      rintro e w' ⟨rfl, rfl⟩
      go_wp2_with fail
      refine (HY.out _).mono ?_
      rintro e w' ⟨rfl, rfl⟩
      go_wp2_with fail
      go_ret
      exact ⟨ret_int HE.out, rfl⟩
    · have HE : Hid (0 = cmpT x y) := Lib.hid (by unfold cmpT; rw [if_neg h1, if_neg h2])
      rw [decide_eq_false h1] at hl
      rw [decide_eq_false h2] at hr
      rw [decide_eq_true ((slt_tri x y).resolve_left h1 |>.resolve_right h2)] at he
      clear h1 h2
      go_enter Tryz.func158, Tryz.ntmps158
      go_wp2_with fail
      refine (HX.out _).mono ?_
      rintro e w' ⟨rfl, rfl⟩
      go_wp2_with fail
      refine (HY.out _).mono ?_
      rintro e w' ⟨rfl, rfl⟩
      go_wp2_with fail
      go_ret
      exact ⟨ret_int HE.out, rfl⟩
def orI (a b : Int) : Int := if a = 0 then b else a
theorem cOr_two {A : Option Addr} {c : Nat} (a b : Int) (w : World) (h1 : Rd w A [.int .i64 a, .int .i64 b]) :
    Calls Tryz.prog 196 #[.slice A 2 c] w fun e w' => e = .returned (.int .i64 (orI a b)) ∧ w = w' := by
  obtain ⟨b1, o1, rfl, _, hc⟩ := h1 (by simp)
  have y0 := hc 0 _ rfl
  have y1 := hc 1 _ rfl
  rw [Nat.add_zero] at y0
  clear hc h1
  go_enter Tryz.func196, Tryz.ntmps196
  go_wp2_with fail
  go_loop [5, 8] (fun _ i => ∃ k : Nat, i = .int .i64 (k : Int) ∧ (k = 0 ∨ (k = 1 ∧ a = 0) ∨ (k = 2 ∧ a = 0 ∧ b = 0))) (fun _ i => 2 - (intOf i).toNat)
  case atStart => exact ⟨0, rfl, .inl rfl⟩
  case round =>
    obtain ⟨k, rfl, hk⟩ := hrel
    rcases hk with rfl | ⟨rfl, rfl⟩ | ⟨rfl, rfl, rfl⟩
    · by_cases ha : a = 0
      · subst ha
        go_wp2_with fail
        go_round
        case rel => exact ⟨1, rfl, .inr (.inl (by simp))⟩
        case measure => simp [intOf]
      · have HE : Hid (a = orI a b) := Lib.hid (by unfold orI; rw [if_neg ha])
        go_wp2_with fail
        go_ret
        exact ⟨ret_int HE.out, rfl⟩
    · have HE : Hid (b = orI 0 b) := Lib.hid rfl
      by_cases hb : b = 0
      · subst hb
        go_wp2_with fail
        go_round
        case rel => exact ⟨2, rfl, .inr (.inr (by simp))⟩
        case measure => simp [intOf]
      · go_wp2_with fail
        go_ret
        exact ⟨ret_int HE.out, rfl⟩
    · have HE : Hid (0 = orI 0 0) := Lib.hid rfl
      go_wp2_with fail
      go_ret
      exact ⟨ret_int HE.out, rfl⟩
def edgeCmp (a b : EdgeT) : Int := if cmpI a.1 b.1 = 0 then cmpI a.2 b.2 else cmpI a.1 b.1
theorem edgeCmp_lt (a b : EdgeT) : decide (0 ≤ edgeCmp a b) = !edgeLt a b := by
  unfold edgeCmp edgeLt cmpI
  rw [Bool.eq_iff_iff]
  simp only [decide_eq_true_eq, Bool.not_eq_true', decide_eq_false_iff_not]
  split <;> split <;> (try split) <;> (try split) <;> omega
/-- An edge as a value. -/
def ev (e : EdgeT) : Value := .agg #[.int .i64 e.1, .int .i64 e.2]
theorem cell_alloc {w : World} {b o : Nat} {v : Value} (h : w.cell? ⟨b, o, none⟩ = some v) (x : Obj) : (w.alloc x).cell? ⟨b, o, none⟩ = some v :=
  (((Below.refl _ _).alloc (Nat.le_refl _) x).cell (p := ⟨b, o, none⟩) (lt_of_cell' h)).trans h
theorem box_two (w : World) (x1 x2 x3 x4 : Value) (t : TypeId) :
    ((w.alloc (.cells #[x1, x2] t)).alloc (.cells #[x3, x4] t)).cell? ⟨w.heap.size, 0, none⟩ = some x1 ∧ ((w.alloc (.cells #[x1, x2] t)).alloc (.cells #[x3, x4] t)).cell? ⟨w.heap.size, 1, none⟩ = some x2 ∧
    ((w.alloc (.cells #[x1, x2] t)).alloc (.cells #[x3, x4] t)).cell? ⟨w.heap.size + 1, 0, none⟩ = some x3 ∧ ((w.alloc (.cells #[x1, x2] t)).alloc (.cells #[x3, x4] t)).cell? ⟨w.heap.size + 1, 1, none⟩ = some x4 ∧
    Below w.heap.size w ((w.alloc (.cells #[x1, x2] t)).alloc (.cells #[x3, x4] t)) := by
  refine ⟨cell_alloc ?_ _, cell_alloc ?_ _, ?_, ?_, below_new (below_new (Below.refl _ _) _) _⟩
  · rw [World.cell?_alloc_at _ _ _ _ rfl]; rfl
  · rw [World.cell?_alloc_at _ _ _ _ rfl]; rfl
  · rw [World.cell?_alloc_at _ _ _ _ (by simp)]; rfl
  · rw [World.cell?_alloc_at _ _ _ _ (by simp)]; rfl
theorem gOrder_any (a b : EdgeT) (w : World) : Calls Tryz.prog 160 #[ev a, ev b] w fun e w' => e = .returned (.int .i64 (edgeCmp a b)) ∧ Below w.heap.size w w' := by
  obtain ⟨a1, a2⟩ := a
  obtain ⟨b1, b2⟩ := b
  have H1 := Lib.hid cmpI_any
  have HE : Hid (orI (cmpI a1 b1) (cmpI a2 b2) = edgeCmp (a1, a2) (b1, b2)) := Lib.hid rfl
  unfold ev
  go_enter Tryz.func160, Tryz.ntmps160
  go_wp2_with fail
  obtain ⟨y1, y2, y3, y4, y5⟩ := box_two w (.int .i64 a1) (.int .i64 a2) (.int .i64 b1) (.int .i64 b2) 102
  generalize (w.alloc (.cells #[.int .i64 a1, .int .i64 a2] 102)).alloc (.cells #[.int .i64 b1, .int .i64 b2] 102) = w2 at *
  generalize w.heap.size + 1 = B2 at *
  go_region_held3 (fun w' => w'.cell? ⟨w.heap.size, 0, none⟩ = some (.int .i64 a1) ∧ w'.cell? ⟨w.heap.size, 1, none⟩ = some (.int .i64 a2) ∧ w'.cell? ⟨B2, 0, none⟩ = some (.int .i64 b1) ∧ w'.cell? ⟨B2, 1, none⟩ = some (.int .i64 b2) ∧ Below w.heap.size w w')
    ((refine ⟨?_, ?_, ?_, ?_, ?_⟩ <;> first | assumption | exact Below.drew (by assumption) | exact cell_alloc (by assumption) _ | exact below_new (by assumption) _ | exact Below.drew (below_new (by assumption) _)))
    ((first
      | (go_at_call 197; refine (H1.out _ _ _).mono ?_; rintro e w' ⟨rfl, rfl⟩)
      | (go_at_call 196; refine (cOr_two (cmpI a1 b1) (cmpI a2 b2) ((w2.alloc (.cells #[.int .i64 (cmpI a1 b1), .int .i64 (cmpI a2 b2)] 3)).drew) (show Rd ((w2.alloc (.cells #[.int .i64 (cmpI a1 b1), .int .i64 (cmpI a2 b2)] 3)).drew) _ _ from rd_lit w2 _ #[.int .i64 (cmpI a1 b1), .int .i64 (cmpI a2 b2)] 3 _ rfl rfl)).mono ?_; rintro e w' ⟨rfl, rfl⟩)))
  rename_i hh
  have HB := Lib.hid hh.2.2.2.2
  clear hh y1 y2 y3 y4 y5
  rw [HE.out]
  go_wp2_with fail
  go_ret
  exact ⟨rfl, HB.out⟩
end Go.Proofs.YtoandhhkmkgmaaaGreatDoor
/- Contracts: graph.rises at texts and at edges. Lengths below 2^63. -/
namespace Go.Proofs.YtoandhhkmkgmaaaGreatDoor
open Go.RowKit

theorem cmpT_le (x y : List UInt8) : decide (0 ≤ cmpT x y) = !ltS x y := by
  unfold cmpT ltS
  rw [Bool.eq_iff_iff]
  simp only [decide_eq_true_eq, Bool.not_eq_true', decide_eq_false_iff_not]
  split
  · simp_all
  · split <;> simp_all
theorem risS_no {l : List (List UInt8)} {k : Nat} {x y : List UInt8} (hx : l[k]? = some x) (hy : l[k + 1]? = some y) (h : ltS x y = false) : risesB ltS l = false :=
  rises_no (List.getElem?_eq_some_iff.1 hy).1 (by rw [stepB_at hx hy]; exact h)
set_option maxHeartbeats 1000000 in
theorem risesS_any {A : Option Addr} {n c : Nat} (l : List (List UInt8)) (w : World) (hr : Rd w A (l.map sv)) (hn : l.length = n) (hb : n ≤ 9223372036854775807) :
    Calls Tryz.prog 157 #[.slice A n c, .func (.func 158) #[] #[]] w fun e w' => e = .returned (.bool (risesB ltS l)) ∧ Below w.heap.size w w' := by
  have HR := Lib.hid hr
  have HN := Lib.hid hn
  have hw : IntKind.i64.wrap ((n : Int) - 1) = (n : Int) - 1 := by rw [IntKind.wrap_i64]; omega
  clear hr hn
  go_enter Tryz.func157, Tryz.ntmps157
  go_wp2_with fail
  go_loopw [5, 9] (fun _ i wr => ∃ k : Nat, k ≤ n - 1 ∧ i = .int .i64 (k : Int) ∧ Hid (∀ j, j < k → stepB ltS l j = true) ∧ Hid (Below w.heap.size w wr)) (fun _ i _ => n - (intOf i).toNat)
  case atStart => exact ⟨0, by omega, rfl, Lib.hid (fun j hj => absurd hj (by omega)), Lib.hid (Below.refl _ _)⟩
  case round =>
    obtain ⟨k, hk, rfl, hall, hbw⟩ := hrel
    by_cases hlt : k + 1 < n
    · obtain ⟨x, hx⟩ : ∃ x, l[k]? = some x := ⟨_, List.getElem?_eq_getElem (by rw [HN.out]; omega)⟩
      obtain ⟨y, hy⟩ : ∃ y, l[k + 1]? = some y := ⟨_, List.getElem?_eq_getElem (by rw [HN.out]; omega)⟩
      obtain ⟨b, off, rfl, y1⟩ := (HR.out.below hbw.out).scell hx
      obtain ⟨b', off', hA, y2⟩ := (HR.out.below hbw.out).scell hy
      injection hA with hA
      injection hA with hA1 hA2 _
      subst hA1 hA2
      have HX := Lib.hid hx
      have HY := Lib.hid hy
      have HC := Lib.hid (cmpT_any x y)
      have HB := Lib.hid (fun q => below_drewN hbw.out q)
      have hg : decide (0 ≤ cmpT x y) = !ltS x y := cmpT_le x y
      unfold sv at HC
      clear hx hy hbw
      generalize (⟨x.toArray⟩ : ByteArray) = bx at *
      generalize (⟨y.toArray⟩ : ByteArray) = by' at *
      generalize cmpT x y = C at *
      cases hq : ltS x y with
      | true =>
        rw [hq] at hg
        have hg' : (0 ≤ C) = False := by simp at hg; simp; omega
        have HA : Hid (∀ j, j < k + 1 → stepB ltS l j = true) := Lib.hid (fun j hj => by
          rcases Nat.lt_or_ge j k with h | h
          · exact hall.out j h
          · obtain rfl : j = k := by omega
            rw [stepB_at HX.out HY.out]; exact hq)
        clear hq hall hg
        go_wp2_with fail
        go_quiet ((go_at_call 158; exact quiet_left (HC.out _)))
        go_wp2_with fail
        go_roundw
        case rel => exact ⟨k + 1, by omega, by go_num, HA, Lib.hid (HB.out _)⟩
        case measure => simp [intOf]; omega
      | false =>
        rw [hq] at hg
        have hg' : (0 ≤ C) = True := by simp at hg; simp; omega
        have HA : Hid (risesB ltS l = false) := Lib.hid (risS_no HX.out HY.out hq)
        clear hq hall hg
        go_wp2_with fail
        go_quiet ((go_at_call 158; exact quiet_left (HC.out _)))
        go_wp2_with fail
        go_ret
        exact ⟨ret_bool HA.out.symm, HB.out _⟩
    · have HA : Hid (risesB ltS l = true) := Lib.hid (rises_yes fun i hi => hall.out i (by have := HN.out; omega))
      have hge : ¬ (k : Int) < (n : Int) - 1 := by omega
      clear hall
      go_wp2_with fail
      go_ret
      exact ⟨ret_bool HA.out.symm, hbw.out⟩
set_option maxHeartbeats 1000000 in
theorem risesE_any {A : Option Addr} {n c : Nat} (l : List EdgeT) (w : World) (hr : Rd w A (eV l)) (hn : l.length = n) (hb : n ≤ 9223372036854775807) :
    Calls Tryz.prog 159 #[.slice A n c, .func (.func 160) #[] #[]] w fun e w' => e = .returned (.bool (risesB edgeLt l)) ∧ Below w.heap.size w w' := by
  have HR := Lib.hid hr
  have HN := Lib.hid hn
  have hw : IntKind.i64.wrap ((n : Int) - 1) = (n : Int) - 1 := by rw [IntKind.wrap_i64]; omega
  clear hr hn
  go_enter Tryz.func159, Tryz.ntmps159
  go_wp2_with fail
  go_loopw [5, 9] (fun _ i wr => ∃ k : Nat, k ≤ n - 1 ∧ i = .int .i64 (k : Int) ∧ Hid (∀ j, j < k → stepB edgeLt l j = true) ∧ Hid (Below w.heap.size w wr)) (fun _ i _ => n - (intOf i).toNat)
  case atStart => exact ⟨0, by omega, rfl, Lib.hid (fun j hj => absurd hj (by omega)), Lib.hid (Below.refl _ _)⟩
  case round =>
    obtain ⟨k, hk, rfl, hall, hbw⟩ := hrel
    by_cases hlt : k + 1 < n
    · obtain ⟨x, hx⟩ : ∃ x, l[k]? = some x := ⟨_, List.getElem?_eq_getElem (by rw [HN.out]; omega)⟩
      obtain ⟨y, hy⟩ : ∃ y, l[k + 1]? = some y := ⟨_, List.getElem?_eq_getElem (by rw [HN.out]; omega)⟩
      obtain ⟨b, off, rfl, y1, y2⟩ := (HR.out.below hbw.out).edge hx
      obtain ⟨b', off', hA, y3, y4⟩ := (HR.out.below hbw.out).edge hy
      injection hA with hA
      injection hA with hA1 hA2 _
      subst hA1 hA2
      have HX := Lib.hid hx
      have HY := Lib.hid hy
      have HBD := hbw.out
      have hg : decide (0 ≤ edgeCmp x y) = !edgeLt x y := edgeCmp_lt x y
      have HC := Lib.hid (fun W => gOrder_any x y W)
      clear hx hy hbw
      obtain ⟨x1, x2⟩ := x
      obtain ⟨z1, z2⟩ := y
      unfold ev at HC
      simp only at y1 y2 y3 y4 HC
      generalize edgeCmp (x1, x2) (z1, z2) = C at *
      have f1 : (0 : Int) ≤ (k : Int) := by omega
      have f2 : (k : Int) < (n : Int) := by omega
      have f3 : (0 : Int) ≤ (k : Int) + 1 := by omega
      have f4 : (k : Int) + 1 < (n : Int) := by omega
      have f5 : IntKind.i64.wrap ((k : Int) + 1) = (k : Int) + 1 := by rw [IntKind.wrap_i64]; omega
      go_wp2_with fail
      go_region_held3 (fun w' => w'.cell? ⟨b, off + k * 2, none⟩ = some (.int .i64 x1) ∧ w'.cell? ⟨b, off + k * 2 + 1, none⟩ = some (.int .i64 x2) ∧ w'.cell? ⟨b, off + (k + 1) * 2, none⟩ = some (.int .i64 z1) ∧ w'.cell? ⟨b, off + (k + 1) * 2 + 1, none⟩ = some (.int .i64 z2) ∧ Below w.heap.size w w')
        ((refine ⟨?_, ?_, ?_, ?_, ?_⟩ <;> first | assumption | exact Below.drew (by assumption)))
        ((go_at_call 160; refine (HC.out _).mono ?_; rintro e w5 ⟨rfl, hb5⟩; have y5 := cell_keep (w := wr.drew) y1 hb5; have y6 := cell_keep (w := wr.drew) y2 hb5; have y7 := cell_keep (w := wr.drew) y3 hb5; have y8 := cell_keep (w := wr.drew) y4 hb5; have B5 := below_then (Below.drew HBD) hb5))
      have HB5 := Lib.hid B5
      clear B5 y1 y2 y3 y4 y5 y6 y7 y8 hb5 HBD HC
      cases hq : edgeLt (x1, x2) (z1, z2) with
      | true =>
        rw [hq] at hg
        have hg' : (0 ≤ C) = False := by simp at hg; simp; omega
        have HA : Hid (∀ j, j < k + 1 → stepB edgeLt l j = true) := Lib.hid (fun j hj => by
          rcases Nat.lt_or_ge j k with h | h
          · exact hall.out j h
          · obtain rfl : j = k := by omega
            rw [stepB_at HX.out HY.out]; exact hq)
        clear hq hall hg
        go_wp2_with fail
        go_roundw
        case rel => exact ⟨k + 1, by omega, by go_num, HA, HB5⟩
        case measure => simp [intOf]; omega
      | false =>
        rw [hq] at hg
        have hg' : (0 ≤ C) = True := by simp at hg; simp; omega
        have HA : Hid (risesB edgeLt l = false) := Lib.hid (rises_no (List.getElem?_eq_some_iff.1 HY.out).1 (by rw [stepB_at HX.out HY.out]; exact hq))
        clear hq hall hg
        go_wp2_with fail
        go_ret
        exact ⟨ret_bool HA.out.symm, HB5.out⟩
    · have HA : Hid (risesB edgeLt l = true) := Lib.hid (rises_yes fun i hi => hall.out i (by have := HN.out; omega))
      have hge : ¬ (k : Int) < (n : Int) - 1 := by omega
      clear hall
      go_wp2_with fail
      go_ret
      exact ⟨ret_bool HA.out.symm, hbw.out⟩
end Go.Proofs.YtoandhhkmkgmaaaGreatDoor
