/- Some of the proof's texts, merged; each one's own words stand ahead of it. -/
import Derived.Test.YtoandhhkmkgmaaaNamePlain
import Derived.Test.YtoandhhkmkgmaaaBase
import Derived.Test.YtoandhhkmkgmaaaRows
import Derived.Test.YtoandhhkmkgmaaaShelf
import Derived.WalkKit
import Derived.WalkSpells
import Derived.WalkLawsBesides
import Derived.Outline
import Derived.BigQuiet
import Derived.Deep.QuietTactic
import Derived.Lib.Hide
import Derived.Lib.IndexBytes
/- Contracts: a name's signs, Check; the reference's GoodName, GoodNames. Texts shorter than 2^63. -/
namespace Go.Proofs.Ytoandhhkmkgmaaa
open Go.RowKit

/-- A text as a value. -/
def sv (s : List UInt8) : Value := .string ⟨s.toArray⟩
theorem rest_sgn : ∀ n : Fin 256, (97 ≤ n.val ∧ n.val ≤ 122) ∨ (65 ≤ n.val ∧ n.val ≤ 90) ∨ (48 ≤ n.val ∧ n.val ≤ 57) ∨ decide (0 ≤ Lib.indexByte [95, 46, 47, 45, 43] n.val.toUInt8) = sgn n.val.toUInt8 := by decide +kernel
theorem sign_any (c : UInt8) (w : World) :
    Calls Try.prog 66 #[.int .u8 (c.toNat : Int)] w fun e w' => e = .returned (.bool (sgn c)) ∧ w = w' := by
  have hc : c.toNat < 256 := c.toNat_lt
  have e : c.toNat.toUInt8 = c := by simp
  by_cases a1 : 97 ≤ c.toNat ∧ c.toNat ≤ 122
  · have HS : Hid (true = sgn c) := Lib.hid (by unfold sgn; simp [a1.1, a1.2])
    obtain ⟨b1, b2⟩ := a1
    clear e
    generalize c.toNat = n at *
    go_enter Try.func66, Try.ntmps66
    go_wp2_with fail
    go_ret
    exact ⟨ret_bool HS.out, rfl⟩
  · by_cases a2 : 65 ≤ c.toNat ∧ c.toNat ≤ 90
    · have HS : Hid (true = sgn c) := Lib.hid (by unfold sgn; simp [a2.1, a2.2])
      obtain ⟨b1, b2⟩ := a2
      clear e
      generalize c.toNat = n at *
      have b3 : n < 97 := by omega
      clear a1
      go_enter Try.func66, Try.ntmps66
      go_wp2_with fail
      go_ret
      exact ⟨ret_bool HS.out, rfl⟩
    · by_cases a3 : 48 ≤ c.toNat ∧ c.toNat ≤ 57
      · have HS : Hid (true = sgn c) := Lib.hid (by unfold sgn; simp [a3.1, a3.2])
        obtain ⟨b1, b2⟩ := a3
        clear e
        generalize c.toNat = n at *
        have b3 : n < 65 := by omega
        clear a1 a2
        go_enter Try.func66, Try.ntmps66
        go_wp2_with fail
        go_ret
        exact ⟨ret_bool HS.out, rfl⟩
      · have HS : Hid (decide (0 ≤ Lib.indexByte [95, 46, 47, 45, 43] c.toNat.toUInt8) = sgn c) := Lib.hid (by
          have := rest_sgn ⟨c.toNat, hc⟩
          simp only [e] at this ⊢
          rcases this with h | h | h | h
          · exact absurd h a1
          · exact absurd h a2
          · exact absurd h a3
          · exact h)
        clear e
        generalize c.toNat = n at *
        have f1 : n < 97 ∨ 122 < n := by omega
        have f2 : n < 65 ∨ 90 < n := by omega
        have f3 : n < 48 ∨ 57 < n := by omega
        clear a1 a2 a3
        have HI := Lib.hid (Try.strings_IndexByte ⟨#[95, 46, 47, 45, 43]⟩ (n : Int))
        rcases f1 with f1 | f1 <;> rcases f2 with f2 | f2 <;> rcases f3 with f3 | f3 <;> first
          | omega
          | (go_enter Try.func66, Try.ntmps66
             go_wp2_with fail
             refine (HI.out _).mono ?_
             rintro e w' ⟨rfl, rfl⟩
             go_wp2_with fail
             go_ret
             exact ⟨ret_bool HS.out, rfl⟩)
/-- A text by its bytes. -/
structure StrIs (b : ByteArray) (s : List UInt8) : Prop where
  data : b.data.toList = s
  size : b.size = s.length
theorem strIs (s : List UInt8) : StrIs ⟨s.toArray⟩ s := ⟨rfl, rfl⟩
theorem StrIs.at_ {b : ByteArray} {s : List UInt8} (h : StrIs b s) {k : Nat} (hk : k < b.size) : s[k]? = some b[k] := by
  rw [← h.data]
  have h1 : k < b.data.size := hk
  rw [Array.getElem?_toList, Array.getElem?_eq_getElem h1]
  rfl
theorem StrIs.empty {b : ByteArray} {s : List UInt8} (h : StrIs b s) : b.toList.isEmpty = s.isEmpty := by rw [Lib.toList_data, h.data]
theorem good_long {s : List UInt8} (h : 40 < s.length) : goodName s = false := by unfold goodName; simp; omega
theorem good_none : goodName [] = false := rfl
theorem good_bad {s : List UInt8} {k : Nat} {c : UInt8} (hk : s[k]? = some c) (h : sgn c = false) : goodName s = false := by
  unfold goodName
  have : s.all sgn = false := by
    rw [Bool.eq_false_iff]
    intro ha
    have := List.all_eq_true.1 ha c (List.mem_of_getElem? hk)
    rw [h] at this; cases this
  rw [this]; rfl
theorem good_yes {s : List UInt8} (h : ∀ (j : Nat) (c : UInt8), s[j]? = some c → sgn c = true) (h0 : 0 < s.length) (h1 : s.length ≤ 40) : goodName s = true := by
  unfold goodName
  have : s.all sgn = true := List.all_eq_true.2 fun c hc => by
    obtain ⟨j, hj⟩ := List.mem_iff_getElem?.1 hc
    exact h j c hj
  rw [this]; simp; omega
set_option maxHeartbeats 1000000 in
theorem nmCheck_any (s : List UInt8) (w : World) (hl : s.length ≤ 9223372036854775807) :
    Calls Try.prog 40 #[sv s] w fun e w' => e = .returned (.int .i64 (nameErr s)) ∧ w = w' := by
  unfold sv
  have HB := Lib.hid (strIs s)
  generalize (⟨s.toArray⟩ : ByteArray) = b at *
  have hsz : b.size = s.length := HB.out.size
  have he := HB.out.empty
  by_cases h0 : s.length = 0
  · have HE : Hid (3 = nameErr s) := Lib.hid (by
      have : s = [] := List.eq_nil_of_length_eq_zero h0
      subst this; rfl)
    rw [List.isEmpty_iff_length_eq_zero.2 h0] at he
    clear hsz h0
    go_enter Try.func40, Try.ntmps40
    go_wp2_with fail
    go_ret
    exact ⟨ret_int HE.out, rfl⟩
  · have he' : b.toList.isEmpty = false := by
      rw [he, Bool.eq_false_iff]
      exact fun h => h0 (List.isEmpty_iff_length_eq_zero.1 h)
    clear he
    have hpos : 0 < s.length := by omega
    by_cases h1 : 40 < s.length
    · have HE : Hid (3 = nameErr s) := Lib.hid (by unfold nameErr; rw [good_long h1]; rfl)
      have h2 : 40 < b.size := by omega
      clear hsz h0
      go_enter Try.func40, Try.ntmps40
      go_wp2_with fail
      go_ret
      exact ⟨ret_int HE.out, rfl⟩
    · have h2 : b.size ≤ 40 := by omega
      have HSZ := Lib.hid hsz
      have HP := Lib.hid hpos
      clear hsz h0 h1
      go_enter Try.func40, Try.ntmps40
      go_wp2_with fail
      go_loop [3, 13] (fun _ i => ∃ k : Nat, k ≤ b.size ∧ i = .int .i64 (k : Int) ∧ Hid (∀ (j : Nat) (c : UInt8), j < k → s[j]? = some c → sgn c = true)) (fun _ i => b.size - (intOf i).toNat)
      case atStart => exact ⟨0, by omega, rfl, Lib.hid (fun _ _ hj => absurd hj (Nat.not_lt_zero _))⟩
      case round =>
        obtain ⟨k, hk, rfl, hall⟩ := hrel
        by_cases hlt : k < b.size
        · have HC := Lib.hid (sign_any b[k])
          have HX := Lib.hid (HB.out.at_ hlt)
          cases hq : sgn b[k] with
          | true =>
            have HQ := Lib.hid hq
            clear hq
            go_wp2_with fail
            refine (HC.out _).mono ?_
            rintro e w' ⟨rfl, rfl⟩
            rw [HQ.out]
            go_wp2_with fail
            go_round
            case rel => exact ⟨k + 1, by omega, by go_num, Lib.hid (fun j c hj hc => by
              rcases Nat.lt_or_ge j k with h | h
              · exact hall.out j c h hc
              · obtain rfl : j = k := by omega
                rw [HX.out] at hc
                injection hc with hc
                rw [← hc]; exact HQ.out)⟩
            case measure => simp [intOf]; omega
          | false =>
            have HQ := Lib.hid hq
            have HE : Hid (3 = nameErr s) := Lib.hid (by unfold nameErr; rw [good_bad HX.out hq]; rfl)
            clear hq
            go_wp2_with fail
            refine (HC.out _).mono ?_
            rintro e w' ⟨rfl, rfl⟩
            rw [HQ.out]
            go_wp2_with fail
            go_ret
            exact ⟨ret_int HE.out, rfl⟩
        · have HE : Hid (0 = nameErr s) := Lib.hid (by
            unfold nameErr
            rw [good_yes (fun j c hc => hall.out j c (by have := (List.getElem?_eq_some_iff.1 hc).1; have := HSZ.out; omega) hc) HP.out (by have := HSZ.out; omega)]
            rfl)
          go_wp2_with fail
          go_ret
          exact ⟨ret_int HE.out, rfl⟩
theorem sgn_is (c : UInt8) : sgn c = ((decide (97 ≤ c.toNat) && decide (c.toNat ≤ 122)) || (decide (65 ≤ c.toNat) && decide (c.toNat ≤ 90)) || (decide (48 ≤ c.toNat) && decide (c.toNat ≤ 57)) || decide (c.toNat = 95) || decide (c.toNat = 46) || decide (c.toNat = 47) || decide (c.toNat = 45) || decide (c.toNat = 43)) := rfl
end Go.Proofs.Ytoandhhkmkgmaaa
/- Contracts of the reference: GoodName, GoodNames, Place; slices.Equal at texts. Lengths below 2^63. -/
namespace Go.Proofs.Ytoandhhkmkgmaaa
open Go.RowKit

theorem sgn_iff (c : UInt8) : sgn c = true ↔ (97 ≤ c.toNat ∧ c.toNat ≤ 122) ∨ (65 ≤ c.toNat ∧ c.toNat ≤ 90) ∨ (48 ≤ c.toNat ∧ c.toNat ≤ 57) ∨ c.toNat = 95 ∨ c.toNat = 46 ∨ c.toNat = 47 ∨ c.toNat = 45 ∨ c.toNat = 43 := by
  rw [sgn_is]
  simp only [Bool.or_eq_true, Bool.and_eq_true, decide_eq_true_eq]
  omega
theorem sgn_cases (c : UInt8) : (sgn c = true ∧ ((97 ≤ c.toNat ∧ c.toNat ≤ 122) ∨ (65 ≤ c.toNat ∧ c.toNat ≤ 90) ∨ (48 ≤ c.toNat ∧ c.toNat ≤ 57) ∨ c.toNat = 95 ∨ c.toNat = 46 ∨ c.toNat = 47 ∨ c.toNat = 45 ∨ c.toNat = 43)) ∨
    (sgn c = false ∧ ((0 ≤ c.toNat ∧ c.toNat < 48) ∨ (57 < c.toNat ∧ c.toNat < 65) ∨ (90 < c.toNat ∧ c.toNat < 97) ∨ (122 < c.toNat ∧ c.toNat < 256)) ∧ ((c.toNat : Int) == 95) = false ∧ ((c.toNat : Int) == 46) = false ∧ ((c.toNat : Int) == 47) = false ∧ ((c.toNat : Int) == 45) = false ∧ ((c.toNat : Int) == 43) = false) := by
  have hc : c.toNat < 256 := c.toNat_lt
  by_cases h : sgn c = true
  · exact .inl ⟨h, (sgn_iff c).1 h⟩
  · have hf : sgn c = false := Bool.eq_false_iff.2 h
    rw [sgn_iff] at h
    simp only [beq_eq_false_iff_ne, ne_eq]
    exact .inr ⟨hf, by omega, by omega, by omega, by omega, by omega, by omega⟩
set_option maxHeartbeats 4000000 in
theorem goodName_any (s : List UInt8) (w : World) (hl : s.length ≤ 9223372036854775807) :
    Calls Try.prog 25 #[sv s] w fun e w' => e = .returned (.bool (goodName s)) ∧ w = w' := by
  unfold sv
  have HB := Lib.hid (strIs s)
  generalize (⟨s.toArray⟩ : ByteArray) = b at *
  have HSZ : Hid (b.size = s.length) := Lib.hid HB.out.size
  have hbs : b.size ≤ 9223372036854775807 := by rw [HSZ.out]; exact hl
  go_enter Try.func25, Try.ntmps25
  go_wp2_with fail
  go_loop [3, 4, 7] (fun _ _ i => ∃ k : Nat, k ≤ b.size ∧ i = .int .i64 (k : Int) ∧ Hid (∀ (j : Nat) (c : UInt8), j < k → s[j]? = some c → sgn c = true)) (fun _ _ i => b.size - (intOf i).toNat)
  case atStart => exact ⟨0, by omega, rfl, Lib.hid (fun _ _ hj => absurd hj (Nat.not_lt_zero _))⟩
  case round =>
    obtain ⟨k, hk, rfl, hall⟩ := hrel
    by_cases hlt : k < b.size
    · have HX := Lib.hid (HB.out.at_ hlt)
      rcases sgn_cases b[k] with ⟨hq, hcase⟩ | ⟨hq, hcase, e1, e2, e3, e4, e5⟩
      · have HU : Hid (∀ (j : Nat) (c : UInt8), j < k + 1 → s[j]? = some c → sgn c = true) := Lib.hid (fun j c hj hc => by
          rcases Nat.lt_or_ge j k with h | h
          · exact hall.out j c h hc
          · obtain rfl : j = k := by omega
            rw [HX.out] at hc
            injection hc with hc
            rw [← hc]; exact hq)
        clear hq HX hall
        rcases hcase with ⟨a1, a2⟩ | ⟨a1, a2⟩ | ⟨a1, a2⟩ | h | h | h | h | h
        all_goals go_wp2_with fail
        all_goals exact ⟨⟨k + 1, by omega, by go_num, HU⟩, by simp [intOf]; omega⟩
      · have HE : Hid (false = goodName s) := Lib.hid (by rw [good_bad HX.out hq])
        clear hq HX hall
        rcases hcase with ⟨a1, a2⟩ | ⟨a1, a2⟩ | ⟨a1, a2⟩ | ⟨a1, a2⟩
        all_goals go_wp2_with fail
        all_goals first
          | (go_ret; exact ⟨ret_bool HE.out, rfl⟩)
          | (exfalso; simp only [Bool.not_eq_false', decide_eq_true_eq] at *; omega)
    · obtain rfl : k = b.size := by omega
      have HALL : Hid (∀ (j : Nat) (c : UInt8), s[j]? = some c → sgn c = true) := Lib.hid (fun j c hc => hall.out j c (by have := (List.getElem?_eq_some_iff.1 hc).1; have := HSZ.out; omega) hc)
      clear hall
      by_cases h0 : b.size = 0
      · have HE : Hid (false = goodName s) := Lib.hid (by
          have : s = [] := List.eq_nil_of_length_eq_zero (by rw [← HSZ.out]; exact h0)
          subst this; rfl)
        have h1 : ¬ 0 < b.size := by omega
        clear h0
        go_wp2_with fail
        go_ret
        exact ⟨ret_bool HE.out, rfl⟩
      · have h1 : 0 < b.size := by omega
        by_cases h2 : b.size ≤ 40
        · have HE : Hid (true = goodName s) := Lib.hid (by rw [good_yes HALL.out (by have := HSZ.out; omega) (by have := HSZ.out; omega)])
          clear h0
          go_wp2_with fail
          go_ret
          exact ⟨ret_bool (by rw [← HE.out]; simp; omega), rfl⟩
        · have HE : Hid (false = goodName s) := Lib.hid (by rw [good_long (by have := HSZ.out; omega)])
          clear h0
          go_wp2_with fail
          go_ret
          exact ⟨ret_bool (by rw [← HE.out]; simp; omega), rfl⟩
/-- A text of a list, and where it lies. -/
theorem Rd.scell {w : World} {A : Option Addr} {l : List (List UInt8)} (h : Rd w A (l.map sv)) {k : Nat} {x : List UInt8} (hk : l[k]? = some x) : ∃ b off, A = some ⟨b, off, none⟩ ∧ w.cell? ⟨b, off + k, none⟩ = some (.string ⟨x.toArray⟩) := by
  obtain ⟨b, off, hA, _, hc⟩ := h (by rw [List.length_map]; have := (List.getElem?_eq_some_iff.1 hk).1; omega)
  exact ⟨b, off, hA, hc k _ (by rw [List.getElem?_map, hk]; rfl)⟩
def StrsOk (l : List (List UInt8)) : Prop := ∀ s ∈ l, s.length ≤ 9223372036854775807
theorem goods_yes {l : List (List UInt8)} (h : ∀ (j : Nat) (s : List UInt8), l[j]? = some s → goodName s = true) : l.all goodName = true := List.all_eq_true.2 fun s hs => by
  obtain ⟨j, hj⟩ := List.mem_iff_getElem?.1 hs
  exact h j s hj
theorem goods_no {l : List (List UInt8)} {j : Nat} {s : List UInt8} (h : l[j]? = some s) (hb : goodName s = false) : l.all goodName = false := by
  rw [Bool.eq_false_iff]
  intro ha
  have := List.all_eq_true.1 ha s (List.mem_of_getElem? h)
  rw [hb] at this; cases this
set_option maxHeartbeats 1000000 in
theorem goodNames_any {A : Option Addr} {n c : Nat} (l : List (List UInt8)) (w : World) (hr : Rd w A (l.map sv)) (hn : l.length = n) (hb : n ≤ 9223372036854775807) (hs : StrsOk l) :
    Calls Try.prog 24 #[.slice A n c] w fun e w' => e = .returned (.bool (l.all goodName)) ∧ w = w' := by
  have HR := Lib.hid hr
  have HN := Lib.hid hn
  have HS := Lib.hid hs
  clear hr hn hs
  go_enter Try.func24, Try.ntmps24
  go_wp2_with fail
  go_loop [4, 7] (fun _ i => ∃ k : Nat, k ≤ n ∧ i = .int .i64 (k : Int) ∧ Hid (∀ (j : Nat) (s : List UInt8), j < k → l[j]? = some s → goodName s = true)) (fun _ i => n - (intOf i).toNat)
  case atStart => exact ⟨0, by omega, rfl, Lib.hid (fun _ _ hj => absurd hj (Nat.not_lt_zero _))⟩
  case round =>
    obtain ⟨k, hk, rfl, hall⟩ := hrel
    by_cases hlt : k < n
    · obtain ⟨x, hx⟩ : ∃ x, l[k]? = some x := ⟨_, List.getElem?_eq_getElem (by rw [HN.out]; exact hlt)⟩
      obtain ⟨b, off, rfl, hc⟩ := HR.out.scell hx
      have HX := Lib.hid hx
      have HC := Lib.hid (goodName_any x · (HS.out x (List.mem_of_getElem? hx)))
      unfold sv at HC
      clear hx
      cases hq : goodName x with
      | true =>
        have HQ := Lib.hid hq
        clear hq
        go_wp2_with fail
        refine (HC.out _).mono ?_
        rintro e w' ⟨rfl, rfl⟩
        rw [HQ.out]
        go_wp2_with fail
        go_round
        case rel => exact ⟨k + 1, by omega, by go_num, Lib.hid (fun j s hj hs => by
          rcases Nat.lt_or_ge j k with h | h
          · exact hall.out j s h hs
          · obtain rfl : j = k := by omega
            rw [HX.out] at hs
            injection hs with hs
            rw [← hs]; exact HQ.out)⟩
        case measure => simp [intOf]; omega
      | false =>
        have HQ := Lib.hid hq
        have HE : Hid (false = l.all goodName) := Lib.hid (by rw [goods_no HX.out hq])
        clear hq
        go_wp2_with fail
        refine (HC.out _).mono ?_
        rintro e w' ⟨rfl, rfl⟩
        rw [HQ.out]
        go_wp2_with fail
        go_ret
        exact ⟨ret_bool HE.out, rfl⟩
    · have HE : Hid (true = l.all goodName) := Lib.hid (by rw [goods_yes (fun j s hs => hall.out j s (by have := (List.getElem?_eq_some_iff.1 hs).1; have := HN.out; omega) hs)])
      go_wp2_with fail
      go_ret
      exact ⟨ret_bool HE.out, rfl⟩
end Go.Proofs.Ytoandhhkmkgmaaa
/- Contracts: the reference's Place; slices.Equal at texts; the last place of a byte; stems. Lengths below 2^62. -/
namespace Go.Proofs.Ytoandhhkmkgmaaa
open Go.RowKit

/-- Where a text stands. -/
def PlaceIs (l : List (List UInt8)) (s : List UInt8) (w : World) (e : Ending) (w' : World) : Prop :=
  ∃ i : Int, e = .returned (.int .i64 i) ∧ w = w' ∧ ((i = -1 ∧ s ∉ l) ∨ ∃ k : Nat, i = (k : Int) ∧ l[k]? = some s)
theorem eq_sv (x y : List UInt8) : ((⟨x.toArray⟩ : ByteArray).toList == (⟨y.toArray⟩ : ByteArray).toList) = decide (x = y) := by
  rw [Lib.toList_data, Lib.toList_data, Bool.eq_iff_iff]; simp
set_option maxHeartbeats 1000000 in
theorem place_any {A : Option Addr} {n c : Nat} (l : List (List UInt8)) (s : List UInt8) (w : World) (hr : Rd w A (l.map sv)) (hn : l.length = n) (hb : n ≤ 9223372036854775807) :
    Calls Try.prog 34 #[.slice A n c, sv s] w (PlaceIs l s w) := by
  have HR := Lib.hid hr
  have HN := Lib.hid hn
  unfold sv
  generalize hbs : (⟨s.toArray⟩ : ByteArray) = bs
  have HBS := Lib.hid hbs
  clear hr hn hbs
  go_enter Try.func34, Try.ntmps34
  go_wp2_with fail
  go_loop [5, 6, 9] (fun _ _ i => ∃ k : Nat, k ≤ n ∧ i = .int .i64 (k : Int) ∧ Hid (∀ (j : Nat) (x : List UInt8), j < k → l[j]? = some x → x ≠ s)) (fun _ _ i => n - (intOf i).toNat)
  case atStart => exact ⟨0, by omega, rfl, Lib.hid (fun _ _ hj => absurd hj (Nat.not_lt_zero _))⟩
  case round =>
    obtain ⟨k, hk, rfl, hall⟩ := hrel
    by_cases hlt : k < n
    · obtain ⟨x, hx⟩ : ∃ x, l[k]? = some x := ⟨_, List.getElem?_eq_getElem (by rw [HN.out]; exact hlt)⟩
      obtain ⟨b, off, rfl, hc⟩ := HR.out.scell hx
      have HX := Lib.hid hx
      have HEQ := Lib.hid (eq_sv x s)
      rw [HBS.out] at HEQ
      generalize (⟨x.toArray⟩ : ByteArray) = bx at hc HEQ
      clear hx
      by_cases he : x = s
      · have h1 : (bx.toList == bs.toList) = true := by rw [HEQ.out, he]; simp
        have HS := Lib.hid he
        clear he
        go_wp2_with fail
        go_ret
        exact ⟨(k : Int), rfl, rfl, .inr ⟨k, rfl, by rw [HX.out, HS.out]⟩⟩
      · have h1 : (bx.toList == bs.toList) = false := by rw [HEQ.out]; simp [he]
        have HS := Lib.hid he
        clear he
        go_wp2_with fail
        go_round
        case rel => exact ⟨k + 1, by omega, by go_num, Lib.hid (fun j y hj hy => by
          rcases Nat.lt_or_ge j k with h | h
          · exact hall.out j y h hy
          · obtain rfl : j = k := by omega
            rw [HX.out] at hy
            injection hy with hy
            rw [← hy]; exact HS.out)⟩
        case measure => simp [intOf]; omega
    · go_wp2_with fail
      go_ret
      exact ⟨-1, rfl, rfl, .inl ⟨rfl, fun hm => by
        obtain ⟨j, hj⟩ := List.mem_iff_getElem?.1 hm
        exact hall.out j s (by have := (List.getElem?_eq_some_iff.1 hj).1; have := HN.out; omega) hj rfl⟩⟩
end Go.Proofs.Ytoandhhkmkgmaaa
/- Contracts: the stem of a name, and what is behind it; the reference's. Lengths below 2^62. -/
namespace Go.Proofs.Ytoandhhkmkgmaaa
open Go.RowKit

/-- A name is cut at i: a dot with neither dot nor slash behind it, not the first sign, not behind a slash. -/
def Cut (s : List UInt8) (i : Nat) : Prop := 0 < i ∧ s[i]? = some 46 ∧ (∀ j, i < j → s[j]? ≠ some 46 ∧ s[j]? ≠ some 47) ∧ s[i - 1]? ≠ some 47
theorem data_at {b : ByteArray} {s : List UInt8} (h : StrIs b s) {j : Nat} (hj : j < s.length) : s[j]? = some (b.data[j]!) := by
  have h1 : j < b.data.size := by
    have := h.size
    have : b.data.size = b.size := rfl
    omega
  rw [← h.data, Array.getElem?_toList, Array.getElem?_eq_getElem h1]
  exact congrArg some (getElem!_pos b.data j h1).symm
theorem byte_is {c : UInt8} {n : Nat} (hn : n < 256) (h : (c.toNat : Int) = (n : Int)) : c = n.toUInt8 := by
  apply UInt8.toNat.inj
  rw [Nat.toUInt8, UInt8.toNat_ofNat', Nat.mod_eq_of_lt hn]
  omega
theorem byte_not {c : UInt8} {n : Nat} (hn : n < 256) (h : (c.toNat : Int) ≠ (n : Int)) : c ≠ n.toUInt8 := fun e => h (by
  rw [e, Nat.toUInt8, UInt8.toNat_ofNat', Nat.mod_eq_of_lt hn])
/-- The last place of a byte. -/
theorem last_is {b : ByteArray} {s : List UInt8} (h : StrIs b s) (n : Nat) (hn : n < 256) :
    (Lib.lastIndexByte b n = -1 ∧ ∀ j : Nat, s[j]? ≠ some n.toUInt8) ∨ ∃ i : Nat, Lib.lastIndexByte b n = i ∧ i < s.length ∧ s[i]? = some n.toUInt8 ∧ ∀ j, i < j → s[j]? ≠ some n.toUInt8 := by
  have hsz := h.size
  have hat : ∀ (j : Nat), s[j]? = some n.toUInt8 → j < s.length ∧ ((b.data[j]!).toNat : Int) = n := fun j hj => by
    have hlt := (List.getElem?_eq_some_iff.1 hj).1
    refine ⟨hlt, ?_⟩
    rw [data_at h hlt] at hj
    injection hj with hj
    rw [hj, Nat.toUInt8, UInt8.toNat_ofNat', Nat.mod_eq_of_lt hn]
  rcases Lib.lastIdx_spec b n b.size with ⟨h1, h2⟩ | ⟨i, hi, h1, h2, h3⟩
  · exact .inl ⟨h1, fun j hj => by
      obtain ⟨a, c⟩ := hat j hj
      exact h2 j (by omega) c⟩
  · refine .inr ⟨i, h1, by omega, ?_, fun j hj hc => ?_⟩
    · rw [data_at h (by omega), byte_is hn h2]
    · obtain ⟨a, c⟩ := hat j hc
      exact h3 j hj (by omega) c
theorem stem_case {b : ByteArray} {s : List UInt8} (h : StrIs b s) :
    (∃ i : Nat, Cut s i ∧ i < s.length ∧ Lib.lastIndexByte b 46 = i ∧ Lib.lastIndexByte b 47 + 1 < i ∧ -1 ≤ Lib.lastIndexByte b 47) ∨ ((∀ i, ¬ Cut s i) ∧ Lib.lastIndexByte b 46 ≤ Lib.lastIndexByte b 47 + 1 ∧ -1 ≤ Lib.lastIndexByte b 47 ∧ Lib.lastIndexByte b 47 ≤ s.length) := by
  have e46 : (46 : Nat).toUInt8 = 46 := rfl
  have e47 : (47 : Nat).toUInt8 = 47 := rfl
  have hd := last_is h 46 (by decide)
  have hs := last_is h 47 (by decide)
  rw [e46] at hd
  rw [e47] at hs
  have c46 : ((46 : Nat) : Int) = 46 := rfl
  have c47 : ((47 : Nat) : Int) = 47 := rfl
  rw [c46] at hd
  rw [c47] at hs
  rcases hd with ⟨d1, d2⟩ | ⟨i, d1, d2, d3, d4⟩
  · refine .inr ⟨fun i hc => d2 i hc.2.1, ?_, ?_, ?_⟩ <;> (rcases hs with ⟨s1, _⟩ | ⟨j, s1, _⟩ <;> omega)
  · rcases hs with ⟨s1, s2⟩ | ⟨j, s1, s2, s3, s4⟩
    · by_cases h0 : i = 0
      · refine .inr ⟨fun i' hc => ?_, by omega, by omega, by omega⟩
        have := d4 i' (by have := hc.1; omega)
        exact this hc.2.1
      · exact .inl ⟨i, ⟨by omega, d3, fun k hk => ⟨d4 k hk, s2 k⟩, s2 _⟩, d2, d1, by omega, by omega⟩
    · by_cases hij : j + 1 < i
      · refine .inl ⟨i, ⟨by omega, d3, fun k hk => ⟨d4 k hk, s4 k (by omega)⟩, s4 _ (by omega)⟩, d2, d1, by omega, by omega⟩
      · refine .inr ⟨fun i' hc => ?_, by omega, by omega, by omega⟩
        have h1 : i' = i := by
          rcases Nat.lt_trichotomy i' i with hlt | heq | hgt
          · exact absurd d3 (hc.2.2.1 i hlt).1
          · exact heq
          · exact absurd hc.2.1 (d4 i' hgt)
        subst h1
        rcases Nat.lt_trichotomy i' j with hlt | heq | hgt
        · exact (hc.2.2.1 j hlt).2 s3
        · subst heq; rw [d3] at s3; cases s3
        · have : i' - 1 = j := by omega
          exact hc.2.2.2 (by rw [this]; exact s3)
theorem ext_take {b : ByteArray} {s : List UInt8} (h : StrIs b s) (i : Nat) : b.extract 0 i = ⟨(s.take i).toArray⟩ := by
  apply ByteArray.ext
  apply Array.ext'
  rw [Lib.extract_data]
  simp [h.data]
theorem ext_drop {b : ByteArray} {s : List UInt8} (h : StrIs b s) (i : Nat) : b.extract i b.size = ⟨(s.drop i).toArray⟩ := by
  apply ByteArray.ext
  apply Array.ext'
  rw [Lib.extract_to_end]
  simp [h.data]
set_option maxHeartbeats 1000000 in
theorem stem_cut {i : Nat} (s : List UInt8) (w : World) (hl : s.length < 4611686018427387904) (hc : Cut s i) :
    Calls Try.prog 67 #[sv s] w fun e w' => e = .returned (.tuple #[sv (s.take i), sv (s.drop i)]) ∧ Below w.heap.size w w' := by
  unfold sv
  have HB := Lib.hid (strIs s)
  have HE1 := Lib.hid (ext_take (strIs s) i)
  have HE2 := Lib.hid (ext_drop (strIs s) i)
  generalize (⟨s.toArray⟩ : ByteArray) = b at *
  have hbs : b.size < 4611686018427387904 := by rw [HB.out.size]; exact hl
  have L1 := Lib.hid (Try.strings_LastIndexByte b 46 hbs)
  have L2 := Lib.hid (Try.strings_LastIndexByte b 47 hbs)
  rcases stem_case HB.out with ⟨k, hk, k1, k2, k3, k4⟩ | ⟨hno, _⟩
  · obtain rfl : k = i := by
      rcases Nat.lt_trichotomy k i with h | h | h
      · exact absurd hc.2.1 (hk.2.2.1 i h).1
      · exact h
      · exact absurd hk.2.1 (hc.2.2.1 k h).1
    rw [k2] at L1
    generalize Lib.lastIndexByte b 47 = q at *
    have k5 : (k : Int) ≤ (b.size : Int) := by have := HB.out.size; omega
    have k6 : (0 : Int) ≤ (k : Int) := by omega
    have k7 : k ≤ b.size := by omega
    clear k1 k2 hk hc
    go_enter Try.func67, Try.ntmps67
    go_wp2_with fail
    refine (L1.out _).mono ?_
    rintro e w' ⟨rfl, rfl⟩
    go_wp2_with fail
    refine (L2.out _).mono ?_
    rintro e w' ⟨rfl, rfl⟩
    go_wp2_with fail
    go_quiet (fail)
    go_wp2_with fail
    go_ret2
    exact ⟨by rw [← HE1.out, ← HE2.out]; rfl, below_of_drewN _ _⟩
  · exact absurd hc (hno i)
theorem stem_no (s : List UInt8) (w : World) (hl : s.length < 4611686018427387904) (hc : ∀ i, ¬ Cut s i) :
    Calls Try.prog 67 #[sv s] w fun e w' => e = .returned (.tuple #[sv s, sv []]) ∧ Below w.heap.size w w' := by
  unfold sv
  have HB := Lib.hid (strIs s)
  generalize (⟨s.toArray⟩ : ByteArray) = b at *
  have hbs : b.size < 4611686018427387904 := by rw [HB.out.size]; exact hl
  have L1 := Lib.hid (Try.strings_LastIndexByte b 46 hbs)
  have L2 := Lib.hid (Try.strings_LastIndexByte b 47 hbs)
  rcases stem_case HB.out with ⟨k, hk, _⟩ | ⟨_, k1, k2, k3⟩
  · exact absurd hk (hc k)
  · generalize Lib.lastIndexByte b 47 = q at *
    generalize Lib.lastIndexByte b 46 = p at *
    clear hc
    go_enter Try.func67, Try.ntmps67
    go_wp2_with fail
    refine (L1.out _).mono ?_
    rintro e w' ⟨rfl, rfl⟩
    go_wp2_with fail
    refine (L2.out _).mono ?_
    rintro e w' ⟨rfl, rfl⟩
    go_wp2_with fail
    go_ret2
    exact ⟨rfl, Below.refl _ _⟩
/-- While the reference looks from the end: neither dot nor slash behind i. -/
def TailOk (s : List UInt8) (i : Nat) : Prop := ∀ j, i < j → s[j]? ≠ some 46 ∧ s[j]? ≠ some 47
def StemPost (s : List UInt8) (w : World) (e : Ending) (w' : World) : Prop :=
  ((∃ i, Cut s i ∧ e = .returned (.tuple #[sv (s.take i), sv (s.drop i)])) ∨ ((∀ i, ¬ Cut s i) ∧ e = .returned (.tuple #[sv s, sv []]))) ∧ Below w.heap.size w w'
set_option maxHeartbeats 2000000 in
theorem rStem_any (s : List UInt8) (w : World) (hl : s.length < 4611686018427387904) :
    Calls Try.prog 55 #[sv s] w (StemPost s w) := by
  unfold sv
  have HB := Lib.hid (strIs s)
  have HE1 := Lib.hid (fun i => ext_take (strIs s) i)
  have HE2 := Lib.hid (fun i => ext_drop (strIs s) i)
  have HSVB : Hid (Value.string (⟨s.toArray⟩ : ByteArray) = sv s) := Lib.hid rfl
  generalize (⟨s.toArray⟩ : ByteArray) = b at *
  have hbs : b.size < 4611686018427387904 := by rw [HB.out.size]; exact hl
  have HSZ : Hid (b.size = s.length) := Lib.hid HB.out.size
  go_enter Try.func55, Try.ntmps55
  go_wp2_with fail
  go_loop [4] (fun x => ∃ i : Int, -1 ≤ i ∧ i < (b.size : Int) ∧ x = .int .i64 i ∧ Hid (TailOk s i.toNat ∨ s = [])) (fun x => (intOf x + 1).toNat)
  case atStart =>
    refine ⟨(b.size : Int) - 1, by omega, by omega, rfl, Lib.hid ?_⟩
    by_cases h0 : b.size = 0
    · exact .inr (List.eq_nil_of_length_eq_zero (by rw [← HSZ.out]; exact h0))
    · refine .inl (fun j hj => ?_)
      have : s[j]? = none := List.getElem?_eq_none (by have := HSZ.out; omega)
      rw [this]; simp
  case round =>
    obtain ⟨i, hi1, hi2, rfl, ht⟩ := hrel
    by_cases hpos : 0 < i
    · obtain ⟨k, rfl⟩ : ∃ k : Nat, i = (k : Int) := ⟨i.toNat, by omega⟩
      have hk : k < b.size := by omega
      have hk0 : 0 < k := by omega
      have HT : Hid (TailOk s k) := Lib.hid (by
        have := ht.out.resolve_right (fun e => by
          have h2 : s.length = 0 := by rw [e]; rfl
          have := HSZ.out
          omega)
        rw [Int.toNat_natCast] at this; exact this)
      have HX := Lib.hid (HB.out.at_ hk)
      have hk1 : k - 1 < b.size := by omega
      have HY := Lib.hid (HB.out.at_ hk1)
      clear ht
      by_cases c47 : ((b[k].toNat : Int) == 47) = true
      · have HNO : Hid (∀ i, ¬ Cut s i) := Lib.hid (fun i hc => by
          have e : b[k] = 47 := byte_is (n := 47) (by decide) (by simpa using c47)
          have hs : s[k]? = some 47 := by rw [HX.out, e]
          rcases Nat.lt_trichotomy i k with h | h | h
          · exact (hc.2.2.1 k h).2 hs
          · subst h; rw [hc.2.1] at hs; cases hs
          · exact (HT.out i h).1 hc.2.1)
        go_wp2_with fail
        go_ret2
        exact ⟨.inr ⟨HNO.out, by rw [← HSVB.out]; rfl⟩, Below.refl _ _⟩
      · rw [Bool.not_eq_true] at c47
        by_cases c46 : ((b[k].toNat : Int) == 46) = true
        · by_cases p47 : ((b[k - 1].toNat : Int) == 47) = true
          · have HNO : Hid (∀ i, ¬ Cut s i) := Lib.hid (fun i hc => by
              have e : b[k - 1] = 47 := byte_is (n := 47) (by decide) (by simpa using p47)
              have e2 : b[k] = 46 := byte_is (n := 46) (by decide) (by simpa using c46)
              rcases Nat.lt_trichotomy i k with h | h | h
              · exact (hc.2.2.1 k h).1 (by rw [HX.out, e2])
              · subst h; exact hc.2.2.2 (by rw [HY.out, e])
              · exact (HT.out i h).1 hc.2.1)
            go_wp2_with fail
            go_ret2
            exact ⟨.inr ⟨HNO.out, by rw [← HSVB.out]; rfl⟩, Below.refl _ _⟩
          · rw [Bool.not_eq_true] at p47
            have HC : Hid (Cut s k) := Lib.hid ⟨hk0, by
                have e2 : b[k] = 46 := byte_is (n := 46) (by decide) (by simpa using c46)
                rw [HX.out, e2], HT.out, by
                rw [HY.out]
                intro e
                injection e with e
                exact byte_not (n := 47) (c := b[k - 1]) (by decide) (by simpa using p47) e⟩
            have k6 : (0 : Int) ≤ (k : Int) := by omega
            have k7 : (k : Int) ≤ (b.size : Int) := by omega
            go_wp2_with fail
            go_quiet (fail)
            go_wp2_with fail
            go_ret2
            exact ⟨.inl ⟨k, HC.out, by unfold sv; rw [← HE1.out k, ← HE2.out k]; rfl⟩, below_of_drewN _ _⟩
        · rw [Bool.not_eq_true] at c46
          have HU : Hid (TailOk s (k - 1)) := Lib.hid (fun j hj => by
            rcases Nat.lt_or_ge k j with h | h
            · exact HT.out j h
            · obtain rfl : j = k := by omega
              rw [HX.out]
              constructor
              · intro e; injection e with e; exact byte_not (n := 46) (c := b[j]) (by decide) (by simpa using c46) e
              · intro e; injection e with e; exact byte_not (n := 47) (c := b[j]) (by decide) (by simpa using c47) e)
          go_wp2_with fail
          go_round
          case rel => exact ⟨(k : Int) - 1, by omega, by omega, rfl, Lib.hid (.inl (by rw [show ((k : Int) - 1).toNat = k - 1 by omega]; exact HU.out))⟩
          case measure => simp [intOf] <;> omega
    · have HNO : Hid (∀ i, ¬ Cut s i) := Lib.hid (fun j hc => by
        rcases ht.out with h | h
        · exact (h j (by have := hc.1; omega)).1 hc.2.1
        · rw [h] at hc; have := hc.2.1; simp at this)
      go_wp2_with fail
      go_ret2
      exact ⟨.inr ⟨HNO.out, by rw [← HSVB.out]; rfl⟩, Below.refl _ _⟩
end Go.Proofs.Ytoandhhkmkgmaaa
/- Contract: the reference's Place, with the place itself. -/
namespace Go.Proofs.Ytoandhhkmkgmaaa
open Go.RowKit

theorem placeOf_first {l : List (List UInt8)} {s : List UInt8} {k : Nat} (hk : l[k]? = some s) (hf : ∀ (j : Nat) (x : List UInt8), j < k → l[j]? = some x → x ≠ s) : placeOf l s = (k : Int) := by
  have hm := List.mem_of_getElem? hk
  unfold placeOf
  rw [if_pos hm]
  have hlt := List.idxOf_lt_length_iff.2 hm
  have h3 : l[l.idxOf s] = s := List.getElem_idxOf hlt
  have hn : ¬ l.idxOf s < k := fun h => hf _ _ h (List.getElem?_eq_getElem hlt) h3
  rcases Nat.lt_or_ge k (l.idxOf s) with h | h
  · obtain ⟨h1, h2⟩ := List.getElem?_eq_some_iff.1 hk
    unfold List.idxOf at h
    have hh := List.not_of_lt_findIdx h
    rw [h2] at hh
    simp at hh
  · have : l.idxOf s = k := by omega
    rw [this]
set_option maxHeartbeats 1000000 in
theorem placeF_any {A : Option Addr} {n c : Nat} (l : List (List UInt8)) (s : List UInt8) (w : World) (hr : Rd w A (l.map sv)) (hn : l.length = n) (hb : n ≤ 9223372036854775807) :
    Calls Try.prog 34 #[.slice A n c, sv s] w fun e w' => e = .returned (.int .i64 (placeOf l s)) ∧ w = w' := by
  have HR := Lib.hid hr
  have HN := Lib.hid hn
  unfold sv
  generalize hbs : (⟨s.toArray⟩ : ByteArray) = bs
  have HBS := Lib.hid hbs
  clear hr hn hbs
  go_enter Try.func34, Try.ntmps34
  go_wp2_with fail
  go_loop [5, 6, 9] (fun _ _ i => ∃ k : Nat, k ≤ n ∧ i = .int .i64 (k : Int) ∧ Hid (∀ (j : Nat) (x : List UInt8), j < k → l[j]? = some x → x ≠ s)) (fun _ _ i => n - (intOf i).toNat)
  case atStart => exact ⟨0, by omega, rfl, Lib.hid (fun _ _ hj => absurd hj (Nat.not_lt_zero _))⟩
  case round =>
    obtain ⟨k, hk, rfl, hall⟩ := hrel
    by_cases hlt : k < n
    · obtain ⟨x, hx⟩ : ∃ x, l[k]? = some x := ⟨_, List.getElem?_eq_getElem (by rw [HN.out]; exact hlt)⟩
      obtain ⟨b, off, rfl, hc⟩ := HR.out.scell hx
      have HX := Lib.hid hx
      have HEQ := Lib.hid (eq_sv x s)
      rw [HBS.out] at HEQ
      generalize (⟨x.toArray⟩ : ByteArray) = bx at hc HEQ
      clear hx
      by_cases he : x = s
      · have h1 : (bx.toList == bs.toList) = true := by rw [HEQ.out, he]; simp
        have HS := Lib.hid he
        clear he
        go_wp2_with fail
        go_ret
        exact ⟨ret_int (placeOf_first (by rw [HX.out, HS.out]) hall.out).symm, rfl⟩
      · have h1 : (bx.toList == bs.toList) = false := by rw [HEQ.out]; simp [he]
        have HS := Lib.hid he
        clear he
        go_wp2_with fail
        go_round
        case rel => exact ⟨k + 1, by omega, by go_num, Lib.hid (fun j y hj hy => by
          rcases Nat.lt_or_ge j k with h | h
          · exact hall.out j y h hy
          · obtain rfl : j = k := by omega
            rw [HX.out] at hy
            injection hy with hy
            rw [← hy]; exact HS.out)⟩
        case measure => simp [intOf]; omega
    · go_wp2_with fail
      go_ret
      exact ⟨ret_int (by
        unfold placeOf
        rw [if_neg (fun hm => by
          obtain ⟨j, hj⟩ := List.mem_iff_getElem?.1 hm
          exact hall.out j s (by have := (List.getElem?_eq_some_iff.1 hj).1; have := HN.out; omega) hj rfl)]), rfl⟩
theorem placeOf_in {l : List (List UInt8)} {s : List UInt8} (h : s ∈ l) : ∃ k : Nat, placeOf l s = (k : Int) ∧ l[k]? = some s := by
  refine ⟨l.idxOf s, by unfold placeOf; rw [if_pos h], ?_⟩
  have hlt := List.idxOf_lt_length_iff.2 h
  rw [List.getElem?_eq_getElem hlt]
  congr 1
  exact List.getElem_idxOf hlt
theorem placeOf_out {l : List (List UInt8)} {s : List UInt8} (h : s ∉ l) : placeOf l s = -1 := by unfold placeOf; rw [if_neg h]
end Go.Proofs.Ytoandhhkmkgmaaa
