/- Contracts: isNaN, Less at texts; BinarySearch; name.Find. Lengths below 2^62. -/
import Derived.Test.YtoandhhkmkgmaaaGreatDoorName5
import Derived.Deep.Quiet
namespace Go.Proofs.YtoandhhkmkgmaaaGreatDoor
open Go.RowKit

theorem cIsNaN_any (x : List UInt8) (w : World) : Calls Tryz.prog 195 #[sv x] w fun e w' => e = .returned (.bool false) ∧ w = w' := by
  unfold sv
  generalize (⟨x.toArray⟩ : ByteArray) = b
  go_enter Tryz.func195, Tryz.ntmps195
  go_wp2_with fail
  go_ret
  exact ⟨by simp, rfl⟩
theorem sIsNaN_any (x : List UInt8) (w : World) : Calls Tryz.prog 178 #[sv x] w fun e w' => e = .returned (.bool false) ∧ w = w' := by
  unfold sv
  generalize (⟨x.toArray⟩ : ByteArray) = b
  go_enter Tryz.func178, Tryz.ntmps178
  go_wp2_with fail
  go_ret
  exact ⟨by simp, rfl⟩
def ltS (x y : List UInt8) : Bool := decide (x < y)
theorem cLess_any (x y : List UInt8) (w : World) : Calls Tryz.prog 177 #[sv x, sv y] w fun e w' => e = .returned (.bool (ltS x y)) ∧ w = w' := by
  have H1 := Lib.hid (cIsNaN_any x)
  have hl := less_sv x y
  unfold sv at *
  generalize (⟨x.toArray⟩ : ByteArray) = b at *
  generalize (⟨y.toArray⟩ : ByteArray) = d at *
  have HE : Hid (Op.bytesLess b.toList d.toList = ltS x y) := Lib.hid hl
  clear hl
  go_enter Tryz.func177, Tryz.ntmps177
  go_wp2_with fail
  refine (H1.out _).mono ?_
  rintro e w' ⟨rfl, rfl⟩
  go_wp2_with fail
  go_ret
  exact ⟨ret_bool HE.out, rfl⟩

def hasS (l : List (List UInt8)) (x : List UInt8) : Bool := decide (x ∈ l)
def SrPost (l : List (List UInt8)) (x : List UInt8) (w : World) (e : Ending) (w' : World) : Prop :=
  ∃ k : Nat, k ≤ l.length ∧ e = .returned (.tuple #[.int .i64 (k : Int), .bool (hasS l x)]) ∧ (x ∈ l → l[k]? = some x) ∧ w = w'
theorem sr_none {l : List (List UInt8)} {x : List UInt8} (h : ∀ (t : Nat) (y : List UInt8), t < l.length → l[t]? = some y → y < x) : hasS l x = false := by
  unfold hasS
  rw [decide_eq_false_iff_not]
  intro hx
  obtain ⟨t, ht⟩ := List.mem_iff_getElem?.1 hx
  exact slt_irrefl _ (h t x (List.getElem?_eq_some_iff.1 ht).1 ht)
theorem sr_some {l : List (List UInt8)} {x y : List UInt8} {k : Nat} (hu : Up l) (hk : l[k]? = some y) (h1 : ∀ (t : Nat) (z : List UInt8), t < k → l[t]? = some z → z < x) (h2 : ¬ y < x) : hasS l x = decide (y = x) := by
  unfold hasS
  rw [Bool.eq_iff_iff]
  simp only [decide_eq_true_eq]
  constructor
  · intro hx
    obtain ⟨t, ht⟩ := List.mem_iff_getElem?.1 hx
    rcases Nat.lt_trichotomy t k with h | h | h
    · exact absurd (h1 t x h ht) (slt_irrefl _)
    · subst h; rw [hk] at ht; injection ht
    · obtain ⟨a1, e1⟩ := List.getElem?_eq_some_iff.1 hk
      obtain ⟨a2, e2⟩ := List.getElem?_eq_some_iff.1 ht
      have := (List.pairwise_iff_getElem.1 hu) k t a1 a2 h
      rw [e1, e2] at this
      exact absurd this h2
  · rintro rfl
    exact List.mem_of_getElem? hk

set_option maxHeartbeats 4000000 in
theorem search_any {A : Option Addr} {n c : Nat} (l : List (List UInt8)) (x : List UInt8) (w : World) (hr : Rd w A (l.map sv)) (hn : l.length = n) (hb : n ≤ 1099511627776) (hu : Up l) :
    Calls Tryz.prog 129 #[.slice A n c, sv x] w (SrPost l x w) := by
  have HR := Lib.hid hr
  have HN := Lib.hid hn
  have HU := Lib.hid hu
  have HL := Lib.hid (fun y => cLess_any y x w)
  have HNA := Lib.hid (fun y => sIsNaN_any y w)
  clear hr hn hu
  obtain ⟨bx, ebx⟩ : ∃ bx : ByteArray, bx = ⟨x.toArray⟩ := ⟨_, rfl⟩
  have HBX := Lib.hid ebx
  have hsv : sv x = .string bx := by rw [ebx]; rfl
  rw [hsv]
  rw [hsv] at HL
  clear hsv ebx
  go_enter Tryz.func129, Tryz.ntmps129
  go_wp2_with fail
  go_loop [7, 8, 9] (fun i j _ => ∃ p q : Nat, p ≤ q ∧ q ≤ n ∧ i = .int .i64 (p : Int) ∧ j = .int .i64 (q : Int) ∧ Hid (∀ (t : Nat) (y : List UInt8), t < p → l[t]? = some y → y < x) ∧ Hid (∀ (t : Nat) (y : List UInt8), q ≤ t → l[t]? = some y → ¬ y < x)) (fun i j _ => (intOf j).toNat - (intOf i).toNat)
  case atStart => exact ⟨0, n, by omega, by omega, rfl, rfl, Lib.hid (fun _ _ hj => absurd hj (Nat.not_lt_zero _)), Lib.hid (fun t y ht hy => absurd (List.getElem?_eq_some_iff.1 hy).1 (by have := HN.out; omega))⟩
  case round =>
    obtain ⟨p, q, hpq, hq, rfl, rfl, hlo, hhi⟩ := hrel
    by_cases hlt : p < q
    · have hm : (p + q) / 2 < n := by omega
      obtain ⟨y, hy⟩ : ∃ y, l[(p + q) / 2]? = some y := ⟨_, List.getElem?_eq_getElem (by rw [HN.out]; exact hm)⟩
      obtain ⟨b, off, rfl, hc⟩ := HR.out.scell hy
      have HY := Lib.hid hy
      have HC := Lib.hid (HL.out y)
      unfold sv at HC
      clear hy
      cases hq2 : ltS y x with
      | true =>
        have HQ := Lib.hid hq2
        clear hq2
        go_wp2_with fail
        refine HC.out.mono ?_
        rintro e w' ⟨rfl, rfl⟩
        rw [HQ.out]
        go_wp2_with fail
        go_round
        case rel => exact ⟨(p + q) / 2 + 1, q, by omega, by omega, by congr 1, rfl, Lib.hid (fun t z ht hz => by
          have hyx : y < x := by have := HQ.out; unfold ltS at this; exact of_decide_eq_true this
          rcases Nat.lt_or_ge t ((p + q) / 2) with h | h
          · obtain ⟨a1, e1⟩ := List.getElem?_eq_some_iff.1 hz
            obtain ⟨a2, e2⟩ := List.getElem?_eq_some_iff.1 HY.out
            have := (List.pairwise_iff_getElem.1 HU.out) t _ a1 a2 h
            rw [e1, e2] at this
            exact slt_trans this hyx
          · obtain rfl : t = (p + q) / 2 := by omega
            rw [HY.out] at hz
            injection hz with hz
            rw [← hz]; exact hyx), hhi⟩
        case measure => simp [intOf]; omega
      | false =>
        have HQ := Lib.hid hq2
        clear hq2
        go_wp2_with fail
        refine HC.out.mono ?_
        rintro e w' ⟨rfl, rfl⟩
        rw [HQ.out]
        go_wp2_with fail
        go_round
        case rel => exact ⟨p, (p + q) / 2, by omega, by omega, rfl, by congr 1, hlo, Lib.hid (fun t z ht hz => by
          have hyx : ¬ y < x := by have := HQ.out; unfold ltS at this; exact of_decide_eq_false this
          rcases Nat.eq_or_lt_of_le ht with h | h
          · subst h
            rw [HY.out] at hz
            injection hz with hz
            rw [← hz]; exact hyx
          · obtain ⟨a1, e1⟩ := List.getElem?_eq_some_iff.1 hz
            obtain ⟨a2, e2⟩ := List.getElem?_eq_some_iff.1 HY.out
            have := (List.pairwise_iff_getElem.1 HU.out) _ t a2 a1 h
            rw [e1, e2] at this
            exact fun hzx => hyx (slt_trans this hzx))⟩
        case measure => simp [intOf]; omega
    · obtain rfl : p = q := by omega
      by_cases hpn : p < n
      · obtain ⟨y, hy⟩ : ∃ y, l[p]? = some y := ⟨_, List.getElem?_eq_getElem (by rw [HN.out]; exact hpn)⟩
        obtain ⟨b, off, rfl, hc⟩ := HR.out.scell hy
        have HY := Lib.hid hy
        have HEQ := Lib.hid (eq_sv y x)
        have HP : Hid (hasS l x = decide (y = x)) := Lib.hid (sr_some HU.out hy hlo.out (hhi.out p y (Nat.le_refl _) hy))
        have HC1 := Lib.hid (HNA.out y)
        have HC2 := Lib.hid (HNA.out x)
        unfold sv at HC1 HC2
        rw [← HBX.out] at HEQ HC2
        generalize (⟨y.toArray⟩ : ByteArray) = byy at hc HEQ HC1
        clear hy
        by_cases he : y = x
        · have h1 : (byy.toList == bx.toList) = true := by rw [HEQ.out]; simp [he]
          have HT : Hid (true = hasS l x) := Lib.hid (by rw [HP.out]; simp [he])
          have HE := Lib.hid he
          clear he
          go_wp2_with fail
          go_ret2
          exact ⟨p, by have := HN.out; omega, ret_pairb rfl HT.out, fun _ => by rw [HY.out, HE.out], rfl⟩
        · have h1 : (byy.toList == bx.toList) = false := by rw [HEQ.out]; simp [he]
          have HT : Hid (false = hasS l x) := Lib.hid (by rw [HP.out]; simp [he])
          have HM : Hid (x ∉ l) := Lib.hid (fun hm => by have := HT.out; unfold hasS at this; simp [hm] at this)
          clear he
          go_wp2_with fail
          refine HC1.out.mono ?_
          rintro e w' ⟨rfl, rfl⟩
          go_wp2_with fail
          go_ret2
          exact ⟨p, by have := HN.out; omega, ret_pairb rfl HT.out, fun hm => absurd hm HM.out, rfl⟩
      · obtain rfl : p = n := by omega
        have HT : Hid (false = hasS l x) := Lib.hid (sr_none (fun t y ht hy => hlo.out t y (by have := HN.out; omega) hy)).symm
        have HM : Hid (x ∉ l) := Lib.hid (fun hm => by have := HT.out; unfold hasS at this; simp [hm] at this)
        go_wp2_with fail
        go_ret2
        exact ⟨p, by have := HN.out; omega, ret_pairb rfl HT.out, fun hm => absurd hm HM.out, rfl⟩

/-- Where a text stands, or 0. -/
def placeMax (l : List (List UInt8)) (s : List UInt8) : Int := if s ∈ l then (l.idxOf s : Nat) else 0
theorem placeMax_in {l : List (List UInt8)} {s : List UInt8} {k : Nat} (hu : Up l) (hs : s ∈ l) (hk : l[k]? = some s) : placeMax l s = k := by
  unfold placeMax
  rw [if_pos hs]
  obtain ⟨h1, h2⟩ := List.getElem?_eq_some_iff.1 hk
  have hlt : l.idxOf s < l.length := List.idxOf_lt_length_iff.2 hs
  have h3 : l[l.idxOf s] = s := List.getElem_idxOf hlt
  rcases Nat.lt_trichotomy (l.idxOf s) k with h | h | h
  · have := (List.pairwise_iff_getElem.1 hu) _ _ hlt h1 h
    rw [h3, h2] at this
    exact absurd this (slt_irrefl _)
  · rw [h]
  · have := (List.pairwise_iff_getElem.1 hu) _ _ h1 hlt h
    rw [h3, h2] at this
    exact absurd this (slt_irrefl _)
theorem nmFind_any {A : Option Addr} {n c : Nat} (l : List (List UInt8)) (x : List UInt8) (w : World) (hr : Rd w A (l.map sv)) (hn : l.length = n) (hb : n ≤ 1099511627776) (hu : Up l) :
    Calls Tryz.prog 72 #[.slice A n c, sv x] w fun e w' => e = .returned (.tuple #[.int .i64 (placeMax l x), .bool (hasS l x)]) ∧ w = w' := by
  have HC := Lib.hid (search_any (c := c) l x w hr hn hb hu)
  have HU := Lib.hid hu
  clear hr hu
  unfold sv at *
  generalize (⟨x.toArray⟩ : ByteArray) = bx at *
  by_cases hx : x ∈ l
  · have HT : Hid (hasS l x = true) := Lib.hid (by unfold hasS; simp [hx])
    have HX := Lib.hid hx
    clear hx
    go_enter Tryz.func72, Tryz.ntmps72
    go_wp2_with fail
    refine HC.out.mono ?_
    rintro e w' ⟨k, hk, rfl, h2, rfl⟩
    have HP := Lib.hid (placeMax_in HU.out HX.out (h2 HX.out))
    clear h2
    rw [HT.out]
    go_wp2_with fail
    go_ret2
    exact ⟨ret_pairb HP.out.symm HT.out.symm, rfl⟩
  · have HT : Hid (hasS l x = false) := Lib.hid (by unfold hasS; simp [hx])
    have HP : Hid (placeMax l x = 0) := Lib.hid (by unfold placeMax; rw [if_neg hx])
    clear hx
    go_enter Tryz.func72, Tryz.ntmps72
    go_wp2_with fail
    refine HC.out.mono ?_
    rintro e w' ⟨k, hk, rfl, _, rfl⟩
    rw [HT.out]
    go_wp2_with fail
    go_ret2
    exact ⟨ret_pairb HP.out.symm HT.out.symm, rfl⟩
end Go.Proofs.YtoandhhkmkgmaaaGreatDoor
