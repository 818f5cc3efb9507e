/- Contracts: the stem of a name, and what is behind it; the reference's. Lengths below 2^62. -/
import Derived.Test.YtibpdaocdaknbaaName3
import Derived.Lib.IndexBytes
namespace Go.Proofs.Ytibpdaocdaknbaa
open Go.RowKit

/-- A name is cut at i: a dot with neither dot nor slash behind it, not the first sign, not behind a slash. -/
def Cut (s : List UInt8) (i : Nat) : Prop := 0 < i ∧ s[i]? = some 46 ∧ (∀ j, i < j → s[j]? ≠ some 46 ∧ s[j]? ≠ some 47) ∧ s[i - 1]? ≠ some 47
theorem data_at {b : ByteArray} {s : List UInt8} (h : StrIs b s) {j : Nat} (hj : j < s.length) : s[j]? = some (b.data[j]!) := by
  have h1 : j < b.data.size := by
    have := h.size
    have : b.data.size = b.size := rfl
    omega
  rw [← h.data, Array.getElem?_toList, Array.getElem?_eq_getElem h1]
  exact congrArg some (getElem!_pos b.data j h1).symm
theorem byte_is {c : UInt8} {n : Nat} (hn : n < 256) (h : (c.toNat : Int) = (n : Int)) : c = n.toUInt8 := by
  apply UInt8.toNat.inj
  rw [Nat.toUInt8, UInt8.toNat_ofNat', Nat.mod_eq_of_lt hn]
  omega
theorem byte_not {c : UInt8} {n : Nat} (hn : n < 256) (h : (c.toNat : Int) ≠ (n : Int)) : c ≠ n.toUInt8 := fun e => h (by
  rw [e, Nat.toUInt8, UInt8.toNat_ofNat', Nat.mod_eq_of_lt hn])
/-- The last place of a byte. -/
theorem last_is {b : ByteArray} {s : List UInt8} (h : StrIs b s) (n : Nat) (hn : n < 256) :
    (Lib.lastIndexByte b n = -1 ∧ ∀ j : Nat, s[j]? ≠ some n.toUInt8) ∨ ∃ i : Nat, Lib.lastIndexByte b n = i ∧ i < s.length ∧ s[i]? = some n.toUInt8 ∧ ∀ j, i < j → s[j]? ≠ some n.toUInt8 := by
  have hsz := h.size
  have hat : ∀ (j : Nat), s[j]? = some n.toUInt8 → j < s.length ∧ ((b.data[j]!).toNat : Int) = n := fun j hj => by
    have hlt := (List.getElem?_eq_some_iff.1 hj).1
    refine ⟨hlt, ?_⟩
    rw [data_at h hlt] at hj
    injection hj with hj
    rw [hj, Nat.toUInt8, UInt8.toNat_ofNat', Nat.mod_eq_of_lt hn]
  rcases Lib.lastIdx_spec b n b.size with ⟨h1, h2⟩ | ⟨i, hi, h1, h2, h3⟩
  · exact .inl ⟨h1, fun j hj => by
      obtain ⟨a, c⟩ := hat j hj
      exact h2 j (by omega) c⟩
  · refine .inr ⟨i, h1, by omega, ?_, fun j hj hc => ?_⟩
    · rw [data_at h (by omega), byte_is hn h2]
    · obtain ⟨a, c⟩ := hat j hc
      exact h3 j hj (by omega) c
theorem stem_case {b : ByteArray} {s : List UInt8} (h : StrIs b s) :
    (∃ i : Nat, Cut s i ∧ i < s.length ∧ Lib.lastIndexByte b 46 = i ∧ Lib.lastIndexByte b 47 + 1 < i ∧ -1 ≤ Lib.lastIndexByte b 47) ∨ ((∀ i, ¬ Cut s i) ∧ Lib.lastIndexByte b 46 ≤ Lib.lastIndexByte b 47 + 1 ∧ -1 ≤ Lib.lastIndexByte b 47 ∧ Lib.lastIndexByte b 47 ≤ s.length) := by
  have e46 : (46 : Nat).toUInt8 = 46 := rfl
  have e47 : (47 : Nat).toUInt8 = 47 := rfl
  have hd := last_is h 46 (by decide)
  have hs := last_is h 47 (by decide)
  rw [e46] at hd
  rw [e47] at hs
  have c46 : ((46 : Nat) : Int) = 46 := rfl
  have c47 : ((47 : Nat) : Int) = 47 := rfl
  rw [c46] at hd
  rw [c47] at hs
  rcases hd with ⟨d1, d2⟩ | ⟨i, d1, d2, d3, d4⟩
  · refine .inr ⟨fun i hc => d2 i hc.2.1, ?_, ?_, ?_⟩ <;> (rcases hs with ⟨s1, _⟩ | ⟨j, s1, _⟩ <;> omega)
  · rcases hs with ⟨s1, s2⟩ | ⟨j, s1, s2, s3, s4⟩
    · by_cases h0 : i = 0
      · refine .inr ⟨fun i' hc => ?_, by omega, by omega, by omega⟩
        have := d4 i' (by have := hc.1; omega)
        exact this hc.2.1
      · exact .inl ⟨i, ⟨by omega, d3, fun k hk => ⟨d4 k hk, s2 k⟩, s2 _⟩, d2, d1, by omega, by omega⟩
    · by_cases hij : j + 1 < i
      · refine .inl ⟨i, ⟨by omega, d3, fun k hk => ⟨d4 k hk, s4 k (by omega)⟩, s4 _ (by omega)⟩, d2, d1, by omega, by omega⟩
      · refine .inr ⟨fun i' hc => ?_, by omega, by omega, by omega⟩
        have h1 : i' = i := by
          rcases Nat.lt_trichotomy i' i with hlt | heq | hgt
          · exact absurd d3 (hc.2.2.1 i hlt).1
          · exact heq
          · exact absurd hc.2.1 (d4 i' hgt)
        subst h1
        rcases Nat.lt_trichotomy i' j with hlt | heq | hgt
        · exact (hc.2.2.1 j hlt).2 s3
        · subst heq; rw [d3] at s3; cases s3
        · have : i' - 1 = j := by omega
          exact hc.2.2.2 (by rw [this]; exact s3)
theorem ext_take {b : ByteArray} {s : List UInt8} (h : StrIs b s) (i : Nat) : b.extract 0 i = ⟨(s.take i).toArray⟩ := by
  apply ByteArray.ext
  apply Array.ext'
  rw [Lib.extract_data]
  simp [h.data]
theorem ext_drop {b : ByteArray} {s : List UInt8} (h : StrIs b s) (i : Nat) : b.extract i b.size = ⟨(s.drop i).toArray⟩ := by
  apply ByteArray.ext
  apply Array.ext'
  rw [Lib.extract_to_end]
  simp [h.data]
set_option maxHeartbeats 1000000 in
theorem stem_cut {i : Nat} (s : List UInt8) (w : World) (hl : s.length < 4611686018427387904) (hc : Cut s i) :
    Calls Try.prog 6 #[sv s] w fun e w' => e = .returned (.tuple #[sv (s.take i), sv (s.drop i)]) ∧ Below w.heap.size w w' := by
  unfold sv
  have HB := Lib.hid (strIs s)
  have HE1 := Lib.hid (ext_take (strIs s) i)
  have HE2 := Lib.hid (ext_drop (strIs s) i)
  generalize (⟨s.toArray⟩ : ByteArray) = b at *
  have hbs : b.size < 4611686018427387904 := by rw [HB.out.size]; exact hl
  have L1 := Lib.hid (Try.strings_LastIndexByte b 46 hbs)
  have L2 := Lib.hid (Try.strings_LastIndexByte b 47 hbs)
  rcases stem_case HB.out with ⟨k, hk, k1, k2, k3, k4⟩ | ⟨hno, _⟩
  · obtain rfl : k = i := by
      rcases Nat.lt_trichotomy k i with h | h | h
      · exact absurd hc.2.1 (hk.2.2.1 i h).1
      · exact h
      · exact absurd hk.2.1 (hc.2.2.1 k h).1
    rw [k2] at L1
    generalize Lib.lastIndexByte b 47 = q at *
    have k5 : (k : Int) ≤ (b.size : Int) := by have := HB.out.size; omega
    have k6 : (0 : Int) ≤ (k : Int) := by omega
    have k7 : k ≤ b.size := by omega
    clear k1 k2 hk hc
    go_enter Try.func6, Try.ntmps6
    go_wp2_with fail
    refine (L1.out _).mono ?_
    rintro e w' ⟨rfl, rfl⟩
    go_wp2_with fail
    refine (L2.out _).mono ?_
    rintro e w' ⟨rfl, rfl⟩
    go_wp2_with fail
    go_quiet (fail)
    go_wp2_with fail
    go_ret2
    exact ⟨by rw [← HE1.out, ← HE2.out]; rfl, below_of_drewN _ _⟩
  · exact absurd hc (hno i)
theorem stem_no (s : List UInt8) (w : World) (hl : s.length < 4611686018427387904) (hc : ∀ i, ¬ Cut s i) :
    Calls Try.prog 6 #[sv s] w fun e w' => e = .returned (.tuple #[sv s, sv []]) ∧ Below w.heap.size w w' := by
  unfold sv
  have HB := Lib.hid (strIs s)
  generalize (⟨s.toArray⟩ : ByteArray) = b at *
  have hbs : b.size < 4611686018427387904 := by rw [HB.out.size]; exact hl
  have L1 := Lib.hid (Try.strings_LastIndexByte b 46 hbs)
  have L2 := Lib.hid (Try.strings_LastIndexByte b 47 hbs)
  rcases stem_case HB.out with ⟨k, hk, _⟩ | ⟨_, k1, k2, k3⟩
  · exact absurd hk (hc k)
  · generalize Lib.lastIndexByte b 47 = q at *
    generalize Lib.lastIndexByte b 46 = p at *
    clear hc
    go_enter Try.func6, Try.ntmps6
    go_wp2_with fail
    refine (L1.out _).mono ?_
    rintro e w' ⟨rfl, rfl⟩
    go_wp2_with fail
    refine (L2.out _).mono ?_
    rintro e w' ⟨rfl, rfl⟩
    go_wp2_with fail
    go_ret2
    exact ⟨rfl, Below.refl _ _⟩
/-- While the reference looks from the end: neither dot nor slash behind i. -/
def TailOk (s : List UInt8) (i : Nat) : Prop := ∀ j, i < j → s[j]? ≠ some 46 ∧ s[j]? ≠ some 47
def StemPost (s : List UInt8) (w : World) (e : Ending) (w' : World) : Prop :=
  ((∃ i, Cut s i ∧ e = .returned (.tuple #[sv (s.take i), sv (s.drop i)])) ∨ ((∀ i, ¬ Cut s i) ∧ e = .returned (.tuple #[sv s, sv []]))) ∧ Below w.heap.size w w'
set_option maxHeartbeats 2000000 in
theorem rStem_any (s : List UInt8) (w : World) (hl : s.length < 4611686018427387904) :
    Calls Try.prog 7 #[sv s] w (StemPost s w) := by
  unfold sv
  have HB := Lib.hid (strIs s)
  have HE1 := Lib.hid (fun i => ext_take (strIs s) i)
  have HE2 := Lib.hid (fun i => ext_drop (strIs s) i)
  have HSVB : Hid (Value.string (⟨s.toArray⟩ : ByteArray) = sv s) := Lib.hid rfl
  generalize (⟨s.toArray⟩ : ByteArray) = b at *
  have hbs : b.size < 4611686018427387904 := by rw [HB.out.size]; exact hl
  have HSZ : Hid (b.size = s.length) := Lib.hid HB.out.size
  go_enter Try.func7, Try.ntmps7
  go_wp2_with fail
  go_loop [4] (fun x => ∃ i : Int, -1 ≤ i ∧ i < (b.size : Int) ∧ x = .int .i64 i ∧ Hid (TailOk s i.toNat ∨ s = [])) (fun x => (intOf x + 1).toNat)
  case atStart =>
    refine ⟨(b.size : Int) - 1, by omega, by omega, rfl, Lib.hid ?_⟩
    by_cases h0 : b.size = 0
    · exact .inr (List.eq_nil_of_length_eq_zero (by rw [← HSZ.out]; exact h0))
    · refine .inl (fun j hj => ?_)
      have : s[j]? = none := List.getElem?_eq_none (by have := HSZ.out; omega)
      rw [this]; simp
  case round =>
    obtain ⟨i, hi1, hi2, rfl, ht⟩ := hrel
    by_cases hpos : 0 < i
    · obtain ⟨k, rfl⟩ : ∃ k : Nat, i = (k : Int) := ⟨i.toNat, by omega⟩
      have hk : k < b.size := by omega
      have hk0 : 0 < k := by omega
      have HT : Hid (TailOk s k) := Lib.hid (by
        have := ht.out.resolve_right (fun e => by
          have h2 : s.length = 0 := by rw [e]; rfl
          have := HSZ.out
          omega)
        rw [Int.toNat_natCast] at this; exact this)
      have HX := Lib.hid (HB.out.at_ hk)
      have hk1 : k - 1 < b.size := by omega
      have HY := Lib.hid (HB.out.at_ hk1)
      clear ht
      by_cases c47 : ((b[k].toNat : Int) == 47) = true
      · have HNO : Hid (∀ i, ¬ Cut s i) := Lib.hid (fun i hc => by
          have e : b[k] = 47 := byte_is (n := 47) (by decide) (by simpa using c47)
          have hs : s[k]? = some 47 := by rw [HX.out, e]
          rcases Nat.lt_trichotomy i k with h | h | h
          · exact (hc.2.2.1 k h).2 hs
          · subst h; rw [hc.2.1] at hs; cases hs
          · exact (HT.out i h).1 hc.2.1)
        go_wp2_with fail
        go_ret2
        exact ⟨.inr ⟨HNO.out, by rw [← HSVB.out]; rfl⟩, Below.refl _ _⟩
      · rw [Bool.not_eq_true] at c47
        by_cases c46 : ((b[k].toNat : Int) == 46) = true
        · by_cases p47 : ((b[k - 1].toNat : Int) == 47) = true
          · have HNO : Hid (∀ i, ¬ Cut s i) := Lib.hid (fun i hc => by
              have e : b[k - 1] = 47 := byte_is (n := 47) (by decide) (by simpa using p47)
              have e2 : b[k] = 46 := byte_is (n := 46) (by decide) (by simpa using c46)
              rcases Nat.lt_trichotomy i k with h | h | h
              · exact (hc.2.2.1 k h).1 (by rw [HX.out, e2])
              · subst h; exact hc.2.2.2 (by rw [HY.out, e])
              · exact (HT.out i h).1 hc.2.1)
            go_wp2_with fail
            go_ret2
            exact ⟨.inr ⟨HNO.out, by rw [← HSVB.out]; rfl⟩, Below.refl _ _⟩
          · rw [Bool.not_eq_true] at p47
            have HC : Hid (Cut s k) := Lib.hid ⟨hk0, by
                have e2 : b[k] = 46 := byte_is (n := 46) (by decide) (by simpa using c46)
                rw [HX.out, e2], HT.out, by
                rw [HY.out]
                intro e
                injection e with e
                exact byte_not (n := 47) (c := b[k - 1]) (by decide) (by simpa using p47) e⟩
            have k6 : (0 : Int) ≤ (k : Int) := by omega
            have k7 : (k : Int) ≤ (b.size : Int) := by omega
            go_wp2_with fail
            go_quiet (fail)
            go_wp2_with fail
            go_ret2
            exact ⟨.inl ⟨k, HC.out, by unfold sv; rw [← HE1.out k, ← HE2.out k]; rfl⟩, below_of_drewN _ _⟩
        · rw [Bool.not_eq_true] at c46
          have HU : Hid (TailOk s (k - 1)) := Lib.hid (fun j hj => by
            rcases Nat.lt_or_ge k j with h | h
            · exact HT.out j h
            · obtain rfl : j = k := by omega
              rw [HX.out]
              constructor
              · intro e; injection e with e; exact byte_not (n := 46) (c := b[j]) (by decide) (by simpa using c46) e
              · intro e; injection e with e; exact byte_not (n := 47) (c := b[j]) (by decide) (by simpa using c47) e)
          go_wp2_with fail
          go_round
          case rel => exact ⟨(k : Int) - 1, by omega, by omega, rfl, Lib.hid (.inl (by rw [show ((k : Int) - 1).toNat = k - 1 by omega]; exact HU.out))⟩
          case measure => simp [intOf] <;> omega
    · have HNO : Hid (∀ i, ¬ Cut s i) := Lib.hid (fun j hc => by
        rcases ht.out with h | h
        · exact (h j (by have := hc.1; omega)).1 hc.2.1
        · rw [h] at hc; have := hc.2.1; simp at this)
      go_wp2_with fail
      go_ret2
      exact ⟨.inr ⟨HNO.out, by rw [← HSVB.out]; rfl⟩, Below.refl _ _⟩
end Go.Proofs.Ytibpdaocdaknbaa
