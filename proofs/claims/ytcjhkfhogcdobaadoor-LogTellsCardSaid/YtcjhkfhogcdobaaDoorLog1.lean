/- Contracts: log.Check, the reference's StampsFault. Names shorter than 2^63. -/
import Derived.Test.YtcjhkfhogcdobaaDoorBuildPlain
import Derived.Test.YtcjhkfhogcdobaaDoorName1
import Derived.Test.YtcjhkfhogcdobaaDoorRight
namespace Go.Proofs.YtcjhkfhogcdobaaDoor
open Go.RowKit

/-- The cells of a list of stamps. -/
def stV (L : List StampT) : List Value := L.flatMap fun x => [sv x.1, .int .i64 x.2.1, fv x.2.2]
theorem stV_len : ∀ L : List StampT, (stV L).length = 3 * L.length
  | [] => rfl
  | x :: L => by
    have := stV_len L
    unfold stV at *
    rw [List.flatMap_cons, List.length_append, this, List.length_cons]
    simp
    omega
theorem stV_at : ∀ {L : List StampT} {k : Nat} {x : StampT}, L[k]? = some x → (stV L)[3 * k]? = some (sv x.1) ∧ (stV L)[3 * k + 1]? = some (.int .i64 x.2.1) ∧ (stV L)[3 * k + 2]? = some (fv x.2.2)
  | [], k, x, h => by simp at h
  | y :: L, 0, x, h => by
    simp at h
    subst h
    exact ⟨rfl, rfl, rfl⟩
  | y :: L, k + 1, x, h => by
    have ih := stV_at (L := L) (k := k) (by simpa using h)
    unfold stV at *
    rw [List.flatMap_cons, show 3 * (k + 1) = 3 * k + 1 + 1 + 1 by omega]
    exact ⟨ih.1, ih.2.1, ih.2.2⟩
theorem stV_snoc (L : List StampT) (x : StampT) : stV (L ++ [x]) = stV L ++ [sv x.1, .int .i64 x.2.1, fv x.2.2] := by unfold stV; rw [List.flatMap_append]; rfl
/-- A stamp that is read. -/
theorem Rd.stamp {w : World} {A : Option Addr} {L : List StampT} (h : Rd w A (stV L)) {k : Nat} {x : StampT} (hk : L[k]? = some x) :
    ∃ b off, A = some ⟨b, off, none⟩ ∧ w.cell? ⟨b, off + k * 3, none⟩ = some (sv x.1) ∧ w.cell? ⟨b, off + k * 3 + 1, none⟩ = some (.int .i64 x.2.1) ∧ w.cell? ⟨b, off + k * 3 + 2, none⟩ = some (fv x.2.2) := by
  have hl := (List.getElem?_eq_some_iff.1 hk).1
  obtain ⟨b, off, rfl, _, hc⟩ := h (by rw [stV_len]; omega)
  obtain ⟨h1, h2, h3⟩ := stV_at hk
  rw [Nat.mul_comm 3 k] at h1 h2 h3
  exact ⟨b, off, rfl, hc _ _ h1, by rw [Nat.add_assoc]; exact hc _ _ h2, by rw [Nat.add_assoc]; exact hc _ _ h3⟩
def NamesOk (L : List StampT) : Prop := ∀ (j : Nat) (x : StampT), L[j]? = some x → x.1.length ≤ 9223372036854775807
theorem nameErr_good {s : List UInt8} (h : goodName s = true) : nameErr s = 0 := by unfold nameErr; rw [h]; rfl
theorem nameErr_bad {s : List UInt8} (h : goodName s = false) : nameErr s = 3 := by unfold nameErr; rw [h]; rfl
theorem stErr_first {L : List StampT} {q : Nat} {x : StampT} (h1 : ¬ 200 < L.length) (hall : ∀ (j : Nat) (y : StampT), j < q → L[j]? = some y → stOne y = 0) (hx : L[q]? = some x) (h : stOne x ≠ 0) : stErr L = stOne x := by
  have := stFirst_bad hall hx h
  unfold stErr
  rw [if_neg h1, this, if_neg h]
theorem good_next {L : List StampT} {q : Nat} {x : StampT} (hall : ∀ (j : Nat) (y : StampT), j < q → L[j]? = some y → stOne y = 0) (hx : L[q]? = some x) (h : stOne x = 0) : ∀ (j : Nat) (y : StampT), j < q + 1 → L[j]? = some y → stOne y = 0 := fun j y hj hy => by
  rcases Nat.lt_or_ge j q with hc | hc
  · exact hall j y hc hy
  · obtain rfl : j = q := by omega
    rw [hx] at hy
    injection hy with hy
    rw [← hy]; exact h
theorem stErr_3 {L : List StampT} (h1 : ¬ 200 < L.length) (h2 : stFirst L = 0) (h3 : risesB leAt L = false) : stErr L = 3 := by
  unfold stErr
  rw [if_neg h1, if_pos h2, h3]
  rfl
theorem stErr_0 {L : List StampT} (h1 : ¬ 200 < L.length) (h2 : stFirst L = 0) (h3 : risesB leAt L = true) : stErr L = 0 := by
  unfold stErr
  rw [if_neg h1, if_pos h2, h3]
  rfl
section
variable {A : Option Addr} {n c : Nat} (L : List StampT) (w : World) (hr : Rd w A (stV L)) (hn : L.length = n) (hb : n ≤ 9223372036854775807) (hs : NamesOk L)
include hr hn hb hs
set_option maxHeartbeats 2000000 in
theorem lCheck_any : Calls Tryd.prog 8 #[.slice A n c] w fun e w' => e = .returned (.int .i64 (stErr L)) ∧ Below w.heap.size w w' := by
  have HR := Lib.hid hr
  have HN := Lib.hid hn
  have HS := Lib.hid hs
  have HB0 := Lib.hid (Below.refl w.heap.size w)
  clear hr hn hs
  go_enter Tryd.func8, Tryd.ntmps8
  by_cases h1 : 200 < n
  · have HE : Hid (2 = stErr L) := Lib.hid (by unfold stErr; rw [HN.out, if_pos h1])
    have h1' : (200 : Int) < (n : Int) := by omega
    go_wp2_with fail
    go_ret
    exact ⟨ret_int HE.out, HB0.out⟩
  have h1' : ¬ (200 : Int) < (n : Int) := by omega
  go_wp2_with fail
  go_loopw [4, 11] (fun _ i wr => ∃ q : Nat, q ≤ n ∧ i = .int .i64 (q : Int) ∧ Hid (∀ (j : Nat) (x : StampT), j < q → L[j]? = some x → stOne x = 0) ∧ Hid (Below w.heap.size w wr)) (fun _ i _ => n - (intOf i).toNat)
  case atStart => exact ⟨0, by omega, rfl, Lib.hid (fun j e hj => absurd hj (by omega)), HB0⟩
  case round =>
    obtain ⟨q, hq, rfl, hall, hbw⟩ := hrel
    by_cases hlt : q < n
    · obtain ⟨⟨s, t, f⟩, he⟩ : ∃ x, L[q]? = some x := ⟨_, List.getElem?_eq_getElem (by rw [HN.out]; exact hlt)⟩
      obtain ⟨b, off, rfl, y1, y2, y3⟩ := (HR.out.below hbw.out).stamp he
      simp only at y1 y2 y3
      have HX := Lib.hid he
      have HB := Lib.hid (fun o => below_new hbw.out o)
      have HC := Lib.hid (fun W => nmCheck_any s W (HS.out q _ he))
      have HF := Lib.hid (right_any f)
      have hq2 : (q : Int) < (n : Int) := by omega
      have hways := stOne_ways (s, t, f)
      simp only at hways
      have HFI := Lib.hid (fun h => stErr_first (L := L) (q := q) (x := (s, t, f)) (by rw [HN.out]; exact h1) hall.out he h)
      have HGO := Lib.hid (fun h => good_next (L := L) (q := q) (x := (s, t, f)) hall.out he h)
      clear he hbw hall
      unfold sv fv at *
      have hT : (t < 0 ∨ 0 ≤ t) := by omega
      rcases hways with ⟨g1, g5⟩ | ⟨g1, g2, g5⟩ | ⟨g1, g2, g3, g5⟩ | ⟨g1, g2, g3, g4, g5⟩ | ⟨g1, g2, g3, g4, g5⟩
      · have HE : Hid (3 = stErr L) := Lib.hid (by rw [HFI.out (by rw [g5]; decide), g5])
        rw [nameErr_bad g1] at HC
        clear g1 g5 HFI HGO hT
        go_wp2_with fail
        refine (HC.out _).mono ?_
        rintro e w' ⟨rfl, rfl⟩
        go_wp2_with fail
        go_ret
        exact ⟨ret_int HE.out, HB.out _⟩
      · have HE : Hid (4 = stErr L) := Lib.hid (by rw [HFI.out (by rw [g5]; decide), g5])
        rw [nameErr_good g1] at HC
        clear g1 g5 HFI HGO hT
        go_wp2_with fail
        refine (HC.out _).mono ?_
        rintro e w' ⟨rfl, rfl⟩
        go_wp2_with fail
        go_ret
        exact ⟨ret_int HE.out, HB.out _⟩
      · have HE : Hid (4 = stErr L) := Lib.hid (by rw [HFI.out (by rw [g5]; decide), g5])
        rw [nameErr_good g1] at HC
        clear g1 g5 HFI HGO hT
        go_wp2_with fail
        refine (HC.out _).mono ?_
        rintro e w' ⟨rfl, rfl⟩
        go_wp2_with fail
        go_ret
        exact ⟨ret_int HE.out, HB.out _⟩
      · have HE : Hid (1 = stErr L) := Lib.hid (by rw [HFI.out (by rw [g5]; decide), g5])
        rw [nameErr_good g1] at HC
        rw [g4] at HF
        clear g1 g4 g5 HFI HGO hT
        go_wp2_with fail
        refine (HC.out _).mono ?_
        rintro e w' ⟨rfl, rfl⟩
        go_wp2_with fail
        refine (HF.out _).mono ?_
        rintro e w' ⟨rfl, rfl⟩
        go_wp2_with fail
        go_ret
        exact ⟨ret_int HE.out, HB.out _⟩
      · have HA := Lib.hid (HGO.out g5)
        rw [nameErr_good g1] at HC
        rw [g4] at HF
        clear g1 g4 g5 HFI HGO hT
        go_wp2_with fail
        refine (HC.out _).mono ?_
        rintro e w' ⟨rfl, rfl⟩
        go_wp2_with fail
        refine (HF.out _).mono ?_
        rintro e w' ⟨rfl, rfl⟩
        go_wp2_with fail
        go_roundw
        case rel => exact ⟨q + 1, by omega, by go_num, HA, Lib.hid (HB.out _)⟩
        case measure => simp [intOf]; omega
    · have HZ : Hid (stFirst L = 0) := Lib.hid (stFirst_good fun j x hj => hall.out j x (by have := (List.getElem?_eq_some_iff.1 hj).1; rw [HN.out] at this; omega) hj)
      have hqk : ¬ (q : Int) < (n : Int) := by omega
      have hw : IntKind.i64.wrap ((n : Int) - 1) = (n : Int) - 1 := by rw [IntKind.wrap_i64]; omega
      clear hall
      go_wp2_with fail
      go_loopw [5, 39] (fun _ i wr => ∃ k : Nat, k ≤ n - 1 ∧ i = .int .i64 (k : Int) ∧ Hid (∀ j, j < k → stepB leAt L j = true) ∧ Hid (Below w.heap.size w wr)) (fun _ i _ => n - (intOf i).toNat)
      case atStart => exact ⟨0, by omega, rfl, Lib.hid (fun j hj => absurd hj (by omega)), hbw⟩
      case round =>
        obtain ⟨k, hk, rfl, hall, hbw⟩ := hrel
        by_cases hlt2 : k + 1 < n
        · obtain ⟨⟨s1, t1, g1⟩, hx⟩ : ∃ x, L[k]? = some x := ⟨_, List.getElem?_eq_getElem (by rw [HN.out]; omega)⟩
          obtain ⟨⟨s2, t2, g2⟩, hy⟩ : ∃ y, L[k + 1]? = some y := ⟨_, List.getElem?_eq_getElem (by rw [HN.out]; omega)⟩
          obtain ⟨b, off, rfl, _, y1, _⟩ := (HR.out.below hbw.out).stamp hx
          obtain ⟨b', off', hA, _, y2, _⟩ := (HR.out.below hbw.out).stamp hy
          injection hA with hA
          injection hA with hA1 hA2 _
          subst hA1 hA2
          simp only at y1 y2
          have HB := Lib.hid (fun q => below_drewN hbw.out q)
          have hst : stepB leAt L k = decide (t1 ≤ t2) := stepB_at hx hy
          have HLT := Lib.hid (List.getElem?_eq_some_iff.1 hy).1
          have f1 : (0 : Int) ≤ (k : Int) := by omega
          have f2 : (k : Int) < (n : Int) := by omega
          have f3 : (0 : Int) ≤ (k : Int) + 1 := by omega
          have f4 : (k : Int) + 1 < (n : Int) := by omega
          have f5 : IntKind.i64.wrap ((k : Int) + 1) = (k : Int) + 1 := by rw [IntKind.wrap_i64]; omega
          clear hx hy hbw
          by_cases hle : t1 ≤ t2
          · have HA : Hid (∀ j, j < k + 1 → stepB leAt L j = true) := Lib.hid (fun j hj => by
              rcases Nat.lt_or_ge j k with h | h
              · exact hall.out j h
              · obtain rfl : j = k := by omega
                rw [hst]; exact decide_eq_true hle)
            clear hst hall
            go_wp2_with fail
            go_quiet (fail)
            go_wp2_with fail
            go_roundw
            case rel => exact ⟨k + 1, by omega, by go_num, HA, Lib.hid (HB.out _)⟩
            case measure => simp [intOf]; omega
          · have HE : Hid (3 = stErr L) := Lib.hid (stErr_3 (by rw [HN.out]; exact h1) HZ.out (rises_no HLT.out (by rw [hst]; exact decide_eq_false hle))).symm
            clear hst hall
            go_wp2_with fail
            go_quiet (fail)
            go_wp2_with fail
            go_ret
            exact ⟨ret_int HE.out, HB.out _⟩
        · have HE : Hid (0 = stErr L) := Lib.hid (stErr_0 (by rw [HN.out]; exact h1) HZ.out (rises_yes fun i hi => hall.out i (by have := HN.out; omega))).symm
          have hge : ¬ (k : Int) < (n : Int) - 1 := by omega
          clear hall
          go_wp2_with fail
          go_ret
          exact ⟨ret_int HE.out, hbw.out⟩
set_option maxHeartbeats 2000000 in
theorem rStamps_any : Calls Tryd.prog 7 #[.slice A n c] w fun e w' => e = .returned (.int .i64 (stErr L)) ∧ Below w.heap.size w w' := by
  have HR := Lib.hid hr
  have HN := Lib.hid hn
  have HS := Lib.hid hs
  have HB0 := Lib.hid (Below.refl w.heap.size w)
  clear hr hn hs
  go_enter Tryd.func7, Tryd.ntmps7
  by_cases h1 : 200 < n
  · have HE : Hid (2 = stErr L) := Lib.hid (by unfold stErr; rw [HN.out, if_pos h1])
    have h1' : (200 : Int) < (n : Int) := by omega
    go_wp2_with fail
    go_ret
    exact ⟨ret_int HE.out, HB0.out⟩
  have h1' : ¬ (200 : Int) < (n : Int) := by omega
  go_wp2_with fail
  go_loopw [4, 11] (fun _ i wr => ∃ q : Nat, q ≤ n ∧ i = .int .i64 (q : Int) ∧ Hid (∀ (j : Nat) (x : StampT), j < q → L[j]? = some x → stOne x = 0) ∧ Hid (Below w.heap.size w wr)) (fun _ i _ => n - (intOf i).toNat)
  case atStart => exact ⟨0, by omega, rfl, Lib.hid (fun j e hj => absurd hj (by omega)), HB0⟩
  case round =>
    obtain ⟨q, hq, rfl, hall, hbw⟩ := hrel
    by_cases hlt : q < n
    · obtain ⟨⟨s, t, f⟩, he⟩ : ∃ x, L[q]? = some x := ⟨_, List.getElem?_eq_getElem (by rw [HN.out]; exact hlt)⟩
      obtain ⟨b, off, rfl, y1, y2, y3⟩ := (HR.out.below hbw.out).stamp he
      simp only at y1 y2 y3
      have HX := Lib.hid he
      have HB := Lib.hid (fun o => below_new hbw.out o)
      have HC := Lib.hid (fun W => goodName_any s W (HS.out q _ he))
      have HF := Lib.hid (rRight_any f)
      have hq2 : (q : Int) < (n : Int) := by omega
      have hways := stOne_ways (s, t, f)
      simp only at hways
      have HFI := Lib.hid (fun h => stErr_first (L := L) (q := q) (x := (s, t, f)) (by rw [HN.out]; exact h1) hall.out he h)
      have HGO := Lib.hid (fun h => good_next (L := L) (q := q) (x := (s, t, f)) hall.out he h)
      clear he hbw hall
      unfold sv fv at *
      have hT : (t < 0 ∨ 0 ≤ t) := by omega
      rcases hways with ⟨g1, g5⟩ | ⟨g1, g2, g5⟩ | ⟨g1, g2, g3, g5⟩ | ⟨g1, g2, g3, g4, g5⟩ | ⟨g1, g2, g3, g4, g5⟩
      · have HE : Hid (3 = stErr L) := Lib.hid (by rw [HFI.out (by rw [g5]; decide), g5])
        rw [g1] at HC
        clear g1 g5 HFI HGO hT
        go_wp2_with fail
        refine (HC.out _).mono ?_
        rintro e w' ⟨rfl, rfl⟩
        go_wp2_with fail
        go_ret
        exact ⟨ret_int HE.out, HB.out _⟩
      · have HE : Hid (4 = stErr L) := Lib.hid (by rw [HFI.out (by rw [g5]; decide), g5])
        rw [g1] at HC
        clear g1 g5 HFI HGO hT
        go_wp2_with fail
        refine (HC.out _).mono ?_
        rintro e w' ⟨rfl, rfl⟩
        go_wp2_with fail
        go_ret
        exact ⟨ret_int HE.out, HB.out _⟩
      · have HE : Hid (4 = stErr L) := Lib.hid (by rw [HFI.out (by rw [g5]; decide), g5])
        rw [g1] at HC
        clear g1 g5 HFI HGO hT
        go_wp2_with fail
        refine (HC.out _).mono ?_
        rintro e w' ⟨rfl, rfl⟩
        go_wp2_with fail
        go_ret
        exact ⟨ret_int HE.out, HB.out _⟩
      · have HE : Hid (1 = stErr L) := Lib.hid (by rw [HFI.out (by rw [g5]; decide), g5])
        rw [g1] at HC
        rw [g4] at HF
        clear g1 g4 g5 HFI HGO hT
        go_wp2_with fail
        refine (HC.out _).mono ?_
        rintro e w' ⟨rfl, rfl⟩
        go_wp2_with fail
        refine (HF.out _).mono ?_
        rintro e w' ⟨rfl, rfl⟩
        go_wp2_with fail
        go_ret
        exact ⟨ret_int HE.out, HB.out _⟩
      · have HA := Lib.hid (HGO.out g5)
        rw [g1] at HC
        rw [g4] at HF
        clear g1 g4 g5 HFI HGO hT
        go_wp2_with fail
        refine (HC.out _).mono ?_
        rintro e w' ⟨rfl, rfl⟩
        go_wp2_with fail
        refine (HF.out _).mono ?_
        rintro e w' ⟨rfl, rfl⟩
        go_wp2_with fail
        go_roundw
        case rel => exact ⟨q + 1, by omega, by go_num, HA, Lib.hid (HB.out _)⟩
        case measure => simp [intOf]; omega
    · have HZ : Hid (stFirst L = 0) := Lib.hid (stFirst_good fun j x hj => hall.out j x (by have := (List.getElem?_eq_some_iff.1 hj).1; rw [HN.out] at this; omega) hj)
      have hqk : ¬ (q : Int) < (n : Int) := by omega
      have hw : IntKind.i64.wrap ((n : Int) - 1) = (n : Int) - 1 := by rw [IntKind.wrap_i64]; omega
      clear hall
      go_wp2_with fail
      go_loopw [5] (fun i wr => ∃ k : Nat, k ≤ n - 1 ∧ i = .int .i64 ((k : Int) + 1) ∧ Hid (∀ j, j < k → stepB leAt L j = true) ∧ Hid (Below w.heap.size w wr)) (fun i _ => n - (intOf i).toNat)
      case atStart => exact ⟨0, by omega, rfl, Lib.hid (fun j hj => absurd hj (by omega)), hbw⟩
      case round =>
        obtain ⟨k, hk, rfl, hall, hbw⟩ := hrel
        by_cases hlt2 : k + 1 < n
        · obtain ⟨⟨s1, t1, g1⟩, hx⟩ : ∃ x, L[k]? = some x := ⟨_, List.getElem?_eq_getElem (by rw [HN.out]; omega)⟩
          obtain ⟨⟨s2, t2, g2⟩, hy⟩ : ∃ y, L[k + 1]? = some y := ⟨_, List.getElem?_eq_getElem (by rw [HN.out]; omega)⟩
          obtain ⟨b, off, rfl, _, y1, _⟩ := (HR.out.below hbw.out).stamp hx
          obtain ⟨b', off', hA, _, y2, _⟩ := (HR.out.below hbw.out).stamp hy
          injection hA with hA
          injection hA with hA1 hA2 _
          subst hA1 hA2
          simp only at y1 y2
          have HB := Lib.hid (fun q => below_drewN hbw.out q)
          have hst : stepB leAt L k = decide (t1 ≤ t2) := stepB_at hx hy
          have HLT := Lib.hid (List.getElem?_eq_some_iff.1 hy).1
          have f1 : (0 : Int) ≤ (k : Int) := by omega
          have f2 : (k : Int) < (n : Int) := by omega
          have f3 : (0 : Int) ≤ (k : Int) + 1 := by omega
          have f4 : (k : Int) + 1 < (n : Int) := by omega
          have f5 : IntKind.i64.wrap ((k : Int) + 1 - 1) = (k : Int) := by rw [IntKind.wrap_i64]; omega
          clear hx hy hbw
          by_cases hle : t1 ≤ t2
          · have HA : Hid (∀ j, j < k + 1 → stepB leAt L j = true) := Lib.hid (fun j hj => by
              rcases Nat.lt_or_ge j k with h | h
              · exact hall.out j h
              · obtain rfl : j = k := by omega
                rw [hst]; exact decide_eq_true hle)
            clear hst hall
            go_wp2_with fail
            go_quiet (fail)
            go_wp2_with fail
            go_roundw
            case rel => exact ⟨k + 1, by omega, by go_num, HA, Lib.hid (HB.out _)⟩
            case measure => simp [intOf]; omega
          · have HE : Hid (3 = stErr L) := Lib.hid (stErr_3 (by rw [HN.out]; exact h1) HZ.out (rises_no HLT.out (by rw [hst]; exact decide_eq_false hle))).symm
            clear hst hall
            go_wp2_with fail
            go_quiet (fail)
            go_wp2_with fail
            go_ret
            exact ⟨ret_int HE.out, HB.out _⟩
        · have HE : Hid (0 = stErr L) := Lib.hid (stErr_0 (by rw [HN.out]; exact h1) HZ.out (rises_yes fun i hi => hall.out i (by have := HN.out; omega))).symm
          have hge : ¬ (k : Int) + 1 < (n : Int) := by omega
          clear hall
          go_wp2_with fail
          go_ret
          exact ⟨ret_int HE.out, hbw.out⟩
end
end Go.Proofs.YtcjhkfhogcdobaaDoor
