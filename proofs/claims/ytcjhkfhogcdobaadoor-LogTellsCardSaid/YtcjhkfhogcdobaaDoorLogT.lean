/- Contracts: log.text, the reference's StampText. Names of at most 2^40 bytes; the tables of math/bits and of strconv lie. -/
import Derived.Test.YtcjhkfhogcdobaaDoorLogPlain
import Derived.Test.YtcjhkfhogcdobaaDoorLogSame
import Derived.Test.YtcjhkfhogcdobaaDoorShelfLog
import Derived.Test.YtcjhkfhogcdobaaDoorHex3
import Derived.Test.YtcjhkfhogcdobaaDoorDecimal
import Derived.Test.YtcjhkfhogcdobaaDoorWhole
import Derived.Lib.LaidTab
import Derived.Lib.AppendIntMem
import Derived.Lib.ItoaLen
import Derived.Deep.RegionHeld3
import Derived.BigQuiet
import Derived.Deep.QuietTactic
import Derived.Lib.Split
namespace Go.Proofs.YtcjhkfhogcdobaaDoor
open Go.RowKit

/-- The tables that a stamp's text reads. -/
structure LTab (w : World) : Prop where
  t : Tab w
  p10 : Lib.TabIs Tryd.prog w "internal/strconv.uint64pow10" .u64 Lib.pow10Tab
theorem p10_below {w w' : World} {zs : List Int} (h : Lib.TabIs Tryd.prog w "internal/strconv.uint64pow10" .u64 zs) (hb : Below w.heap.size w w') : Lib.TabIs Tryd.prog w' "internal/strconv.uint64pow10" .u64 zs := by
  have hgn : Tryd.prog.globalNamed "internal/strconv.uint64pow10" = some 1 := by kernel_rfl
  unfold Lib.TabIs World.var? at h ⊢
  rw [hgn] at h ⊢
  simp only [Option.bind_some] at h ⊢
  have hlt : 1 < w.heap.size := by
    rcases Nat.lt_or_ge 1 w.heap.size with h' | h'
    · exact h'
    · rw [Array.getElem?_eq_none h'] at h; cases h
  rw [hb.block 1 hlt]
  exact h
theorem LTab.below {w w' : World} (h : LTab w) (hb : Below w.heap.size w w') : LTab w' := ⟨h.t.below hb, p10_below h.p10 hb⟩
theorem cell_up {w w' : World} {B o : Nat} {v : Value} (h : w.cell? ⟨B, o, none⟩ = some v) (hb : Below w.heap.size w w') : w'.cell? ⟨B, o, none⟩ = some v := (hb.cell (p := ⟨B, o, none⟩) (Lib.lt_of_cell h)).trans h
def stA (x : StampT) : Value := .agg #[sv x.1, .int .i64 x.2.1, fv x.2.2]
def TextPost (T : List UInt8) (w : World) (e : Ending) (w' : World) : Prop := e = .returned (.string ⟨T.toArray⟩) ∧ Below w.heap.size w w'
theorem ba_five {a b c : ByteArray} {x y z : List UInt8} (ha : a.data.toList = x) (hb : b.data.toList = y) (hc : c.data.toList = z) : a ++ ⟨#[32]⟩ ++ b ++ ⟨#[32]⟩ ++ c ++ ⟨#[10]⟩ = ⟨(x ++ 32 :: (y ++ 32 :: (z ++ [10]))).toArray⟩ := by
  apply ByteArray.ext
  apply Array.ext'
  simp [ByteArray.data_append, ha, hb, hc]
set_option maxHeartbeats 2000000 in
theorem lText_any (x : StampT) (w : World) (h0 : -9223372036854775808 ≤ x.2.1) (h1 : x.2.1 ≤ 9223372036854775807) (hl : x.1.length ≤ 1099511627776) (hT : LTab w) :
    Calls Tryd.prog 12 #[stA x] w (TextPost (stampT x) w) := by
  obtain ⟨s, t, f⟩ := x
  have CF := Lib.hid (fun W (hW : LTab W) => ((Tryd.strconv_FormatInt_10 t h0 h1 W hW.p10).mono (by rintro e w' ⟨he, k, os, rfl⟩; exact ⟨he, Lib.below_grow _ _ (Nat.le_refl _) _ _⟩) : Calls Tryd.prog 27 #[.int .i64 t, .int .i64 10] W (fun e w' => e = .returned (.string ⟨(Lib.itoa t).toArray⟩) ∧ Below W.heap.size W w')))
  have CH := Lib.hid (fun W (hW : LTab W) => sText_any f W hW.t)
  have hB := below_new (Below.refl w.heap.size w) (.cells #[sv s, .int .i64 t, fv f] 38)
  have hil := Lib.itoa_length_le t h0 h1
  have hhl : (hexT f.toNat 16).length = 16 := hexT_len _ 16
  have HD : Hid (stampT (s, t, f) = s ++ 32 :: (Lib.itoa t ++ 32 :: (hexT f.toNat 16 ++ [10]))) := Lib.hid rfl
  have HT := Lib.hid (hT.below hB)
  have HBW := Lib.hid hB
  clear hT h0 h1 hB
  unfold stA TextPost sv fv hexS at *
  simp only at hl CH ⊢
  generalize stampT (s, t, f) = R at *
  generalize f.toNat = f at *
  generalize hbs : (⟨s.toArray⟩ : ByteArray) = bs at *
  generalize hbi : (⟨(Lib.itoa t).toArray⟩ : ByteArray) = bi at *
  generalize hbh : (⟨(hexT f 16).toArray⟩ : ByteArray) = bh at *
  have HS := Lib.hid (show bs.data.toList = s ∧ bi.data.toList = Lib.itoa t ∧ bh.data.toList = hexT f 16 by rw [← hbs, ← hbi, ← hbh]; exact ⟨rfl, rfl, rfl⟩)
  have z1 : bs.size ≤ 1099511627776 := by rw [← hbs]; simpa [ByteArray.size] using hl
  have z2 : bi.size ≤ 21 := by rw [← hbi]; simpa [ByteArray.size] using hil
  have z3 : bh.size ≤ 16 := by rw [← hbh]; simp [ByteArray.size, hhl]
  clear hbs hbi hbh hil hhl hl
  have n1 : bs.size + 1 ≤ 9223372036854775807 := by omega
  have n2 : bs.size + 1 + bi.size ≤ 9223372036854775807 := by omega
  have n3 : bs.size + 1 + bi.size + 1 ≤ 9223372036854775807 := by omega
  have n4 : bs.size + 1 + bi.size + 1 + bh.size ≤ 9223372036854775807 := by omega
  have n5 : bs.size + 1 + bi.size + 1 + bh.size + 1 ≤ 9223372036854775807 := by omega
  have m1 : ¬ 9223372036854775807 < bs.size + 1 := by omega
  have m2 : ¬ 9223372036854775807 < bs.size + 1 + bi.size := by omega
  have m3 : ¬ 9223372036854775807 < bs.size + 1 + bi.size + 1 := by omega
  have m4 : ¬ 9223372036854775807 < bs.size + 1 + bi.size + 1 + bh.size := by omega
  have m5 : ¬ 9223372036854775807 < bs.size + 1 + bi.size + 1 + bh.size + 1 := by omega
  go_enter Tryd.func12, Tryd.ntmps12
  go_upto_region 1 with fail
  have hc1 : (w.alloc (.cells #[.string bs, .int .i64 t, .float .f64 f] 38)).cell? ⟨w.heap.size, 0, none⟩ = some (.string bs) := by rw [World.cell?_alloc_at _ _ _ _ rfl]; rfl
  have hc2 : (w.alloc (.cells #[.string bs, .int .i64 t, .float .f64 f] 38)).cell? ⟨w.heap.size, 1, none⟩ = some (.int .i64 t) := by rw [World.cell?_alloc_at _ _ _ _ rfl]; rfl
  have hc3 : (w.alloc (.cells #[.string bs, .int .i64 t, .float .f64 f] 38)).cell? ⟨w.heap.size, 2, none⟩ = some (.float .f64 f) := by rw [World.cell?_alloc_at _ _ _ _ rfl]; rfl
  generalize w.alloc (.cells #[.string bs, .int .i64 t, .float .f64 f] 38) = w1 at *
  generalize w.heap.size = B at hc1 hc2 hc3 ⊢
  have HSL := Lib.hid (fun W (hW : Below w1.heap.size w1 W) => (⟨cell_up hc1 hW, cell_up hc2 hW, cell_up hc3 hW, hW⟩ : W.cell? ⟨B, 0, none⟩ = some (.string bs) ∧ W.cell? ⟨B, 1, none⟩ = some (.int .i64 t) ∧ W.cell? ⟨B, 2, none⟩ = some (.float .f64 f) ∧ Below w1.heap.size w1 W))
  have bd : Below w1.heap.size w1 w1.drew := Below.drew (Below.refl _ _)
  go_region_held3 (fun W => W.cell? ⟨B, 0, none⟩ = some (.string bs) ∧ W.cell? ⟨B, 1, none⟩ = some (.int .i64 t) ∧ W.cell? ⟨B, 2, none⟩ = some (.float .f64 f) ∧ Below w1.heap.size w1 W)
    ((refine HSL.out _ ?_; first | assumption | exact Below.drew (by assumption)))
    ((first
      | (go_at_call 27; (with_reducible refine (CF.out _ (HT.out.below (by first | assumption | exact Below.drew (by assumption)))).mono ?_); rintro e u1 ⟨rfl, g1⟩; have f1 := below_then (by first | assumption | exact Below.drew (by assumption)) g1)
      | (go_at_call 28; (with_reducible refine (CH.out _ (HT.out.below (by first | assumption | exact Below.drew (by assumption)))).mono ?_); rintro e u2 ⟨rfl, g2⟩; have f2 := below_then (by first | assumption | exact Below.drew (by assumption)) g2)))
  all_goals
    go_wp2_with fail
    go_ret
    exact ⟨congrArg (fun b => Ending.returned (.string b)) ((ba_five HS.out.1 HS.out.2.1 HS.out.2.2).trans (by rw [HD.out])), below_then HBW.out (by assumption)⟩
set_option maxHeartbeats 2000000 in
theorem rStampText_any (x : StampT) (w : World) (h0 : 0 ≤ x.2.1) (h1 : x.2.1 ≤ 4611686018427387904) (hl : x.1.length ≤ 1099511627776) :
    Calls Tryd.prog 24 #[stA x] w (TextPost (stampT x) w) := by
  obtain ⟨s, t, f⟩ := x
  obtain ⟨u, rfl⟩ : ∃ u : Nat, t = (u : Int) := ⟨t.toNat, by have : 0 ≤ t := h0; omega⟩
  have hub : u ≤ 4611686018427387904 := by have : (u : Int) ≤ 4611686018427387904 := h1; omega
  have CF := Lib.hid (fun W => rDecimal_any u hub W)
  have CB := Lib.hid (fun W => rBits_any f W)
  have CH := Lib.hid (fun W => rHex16 f.toNat (u64_lt f) W)
  have hB := below_new (Below.refl w.heap.size w) (.cells #[sv s, .int .i64 (u : Int), fv f] 38)
  have hil := Lib.itoa_length_le (u : Int) (by omega) (by omega)
  have hhl : (hexT f.toNat 16).length = 16 := hexT_len _ 16
  have HD : Hid (stampT (s, (u : Int), f) = s ++ 32 :: (Lib.itoa (u : Int) ++ 32 :: (hexT f.toNat 16 ++ [10]))) := Lib.hid rfl
  have HBW := Lib.hid hB
  clear h0 h1 hB hub
  unfold stA TextPost sv fv hexS at *
  simp only at hl ⊢
  generalize stampT (s, (u : Int), f) = R at *
  generalize f.toNat = f at *
  generalize hbs : (⟨s.toArray⟩ : ByteArray) = bs at *
  generalize hbi : (⟨(Lib.itoa (u : Int)).toArray⟩ : ByteArray) = bi at *
  generalize hbh : (⟨(hexT f 16).toArray⟩ : ByteArray) = bh at *
  have HS := Lib.hid (show bs.data.toList = s ∧ bi.data.toList = Lib.itoa (u : Int) ∧ bh.data.toList = hexT f 16 by rw [← hbs, ← hbi, ← hbh]; exact ⟨rfl, rfl, rfl⟩)
  have z1 : bs.size ≤ 1099511627776 := by rw [← hbs]; simpa [ByteArray.size] using hl
  have z2 : bi.size ≤ 21 := by rw [← hbi]; simpa [ByteArray.size] using hil
  have z3 : bh.size ≤ 16 := by rw [← hbh]; simp [ByteArray.size, hhl]
  clear hbs hbi hbh hil hhl hl
  have n1 : bs.size + 1 ≤ 9223372036854775807 := by omega
  have n2 : bs.size + 1 + bi.size ≤ 9223372036854775807 := by omega
  have n3 : bs.size + 1 + bi.size + 1 ≤ 9223372036854775807 := by omega
  have n4 : bs.size + 1 + bi.size + 1 + bh.size ≤ 9223372036854775807 := by omega
  have n5 : bs.size + 1 + bi.size + 1 + bh.size + 1 ≤ 9223372036854775807 := by omega
  have m1 : ¬ 9223372036854775807 < bs.size + 1 := by omega
  have m2 : ¬ 9223372036854775807 < bs.size + 1 + bi.size := by omega
  have m3 : ¬ 9223372036854775807 < bs.size + 1 + bi.size + 1 := by omega
  have m4 : ¬ 9223372036854775807 < bs.size + 1 + bi.size + 1 + bh.size := by omega
  have m5 : ¬ 9223372036854775807 < bs.size + 1 + bi.size + 1 + bh.size + 1 := by omega
  go_enter Tryd.func24, Tryd.ntmps24
  go_upto_region 1 with fail
  have hc1 : (w.alloc (.cells #[.string bs, .int .i64 (u : Int), .float .f64 f] 38)).cell? ⟨w.heap.size, 0, none⟩ = some (.string bs) := by rw [World.cell?_alloc_at _ _ _ _ rfl]; rfl
  have hc2 : (w.alloc (.cells #[.string bs, .int .i64 (u : Int), .float .f64 f] 38)).cell? ⟨w.heap.size, 1, none⟩ = some (.int .i64 (u : Int)) := by rw [World.cell?_alloc_at _ _ _ _ rfl]; rfl
  have hc3 : (w.alloc (.cells #[.string bs, .int .i64 (u : Int), .float .f64 f] 38)).cell? ⟨w.heap.size, 2, none⟩ = some (.float .f64 f) := by rw [World.cell?_alloc_at _ _ _ _ rfl]; rfl
  generalize w.alloc (.cells #[.string bs, .int .i64 (u : Int), .float .f64 f] 38) = w1 at *
  generalize w.heap.size = B at hc1 hc2 hc3 ⊢
  go_quiet (first | (go_at_call 35; exact quiet_left (CF.out _)) | (go_at_call 41; exact quiet_left (CB.out _)) | (go_at_call 40; exact quiet_left (CH.out _)))
  all_goals
    go_wp2_with fail
    go_ret
    exact ⟨congrArg (fun b => Ending.returned (.string b)) ((ba_five HS.out.1 HS.out.2.1 HS.out.2.2).trans (by rw [HD.out])), below_then HBW.out (below_of_drewN _ _)⟩
end Go.Proofs.YtcjhkfhogcdobaaDoor
/- The library's Split at one byte, TrimSuffix at the end of a line, in plain Lean: the pieces of TextPlain. No program in sight. -/
namespace Go.Proofs.YtcjhkfhogcdobaaDoor

theorem index_byte (c : UInt8) : ∀ s : List UInt8, Lib.index s [c] = Lib.indexByte s c
  | [] => rfl
  | b :: l => by
    unfold Lib.index Lib.indexByte
    rw [index_byte c l]
    have e : ([c].isPrefixOf (b :: l)) = (b == c) := by
      simp only [List.isPrefixOf, Bool.and_true]
      exact Bool.beq_comm
    rw [e]
theorem byte_miss {c : UInt8} : ∀ {s : List UInt8}, Lib.indexByte s c = -1 → c ∉ s
  | [], _ => by simp
  | b :: l, h => by
    unfold Lib.indexByte at h
    by_cases hb : b = c
    · rw [if_pos (by simp [hb])] at h; cases h
    · rw [if_neg (by simp [hb])] at h
      by_cases hm : Lib.indexByte l c = -1
      · have := byte_miss hm
        simp only [List.mem_cons, not_or]
        exact ⟨fun e => hb e.symm, this⟩
      · rw [if_neg (by simp [hm])] at h
        have := Lib.indexByte_ge l c
        omega
theorem byte_hit {c : UInt8} : ∀ {s : List UInt8} {i : Nat}, Lib.indexByte s c = (i : Int) → i < s.length ∧ c ∉ s.take i ∧ s = s.take i ++ c :: s.drop (i + 1)
  | [], i, h => by simp [Lib.indexByte] at h
  | b :: l, i, h => by
    unfold Lib.indexByte at h
    by_cases hb : b = c
    · rw [if_pos (by simp [hb])] at h
      obtain rfl : i = 0 := by omega
      exact ⟨by simp, by simp, by simp [hb]⟩
    · rw [if_neg (by simp [hb])] at h
      by_cases hm : Lib.indexByte l c = -1
      · rw [if_pos (by simp [hm])] at h; omega
      · rw [if_neg (by simp [hm])] at h
        have hge := Lib.indexByte_ge l c
        obtain ⟨j, hj⟩ : ∃ j : Nat, Lib.indexByte l c = (j : Int) := ⟨(Lib.indexByte l c).toNat, by omega⟩
        obtain rfl : i = j + 1 := by omega
        obtain ⟨h1, h2, h3⟩ := byte_hit hj
        refine ⟨by simp; omega, ?_, ?_⟩
        · rw [List.take_succ_cons, List.mem_cons, not_or]
          exact ⟨fun e => hb e.symm, h2⟩
        · rw [List.take_succ_cons, List.drop_succ_cons, List.cons_append, ← h3]
theorem count_byte_miss {c : UInt8} {s : List UInt8} (h : Lib.indexByte s c = -1) : Lib.count s [c] = 0 := by
  unfold Lib.count Lib.countFrom
  rw [index_byte, h]
  rfl
theorem countFrom_any {c : UInt8} : ∀ (f : Nat) (s : List UInt8), s.length < f → Lib.countFrom [c] f s = s.count c
  | 0, s, h => by omega
  | f + 1, s, h => by
    unfold Lib.countFrom
    rw [index_byte]
    by_cases hm : Lib.indexByte s c = -1
    · rw [if_pos (by simp [hm]), List.count_eq_zero.2 (byte_miss hm)]
    · have hge := Lib.indexByte_ge s c
      obtain ⟨i, hi⟩ : ∃ i : Nat, Lib.indexByte s c = (i : Int) := ⟨(Lib.indexByte s c).toNat, by omega⟩
      obtain ⟨h1, h2, h3⟩ := byte_hit hi
      rw [if_neg (by simp [hm]), hi]
      have e : ((i : Int).toNat + [c].length) = i + 1 := by simp
      rw [e, countFrom_any f _ (by rw [List.length_drop]; omega)]
      conv => rhs; rw [h3]
      rw [List.count_append, List.count_eq_zero.2 h2, List.count_cons]
      simp
      omega
theorem split_byte (c : UInt8) : ∀ (k : Nat) (s : List UInt8), s.count c = k → Lib.splitK [c] 0 k s = splitC c s
  | 0, s, h => by
    rw [splitC_free (List.count_eq_zero.1 h)]
    rfl
  | k + 1, s, h => by
    have hm : Lib.indexByte s c ≠ -1 := fun e => by rw [List.count_eq_zero.2 (byte_miss e)] at h; cases h
    have hge := Lib.indexByte_ge s c
    obtain ⟨i, hi⟩ : ∃ i : Nat, Lib.indexByte s c = (i : Int) := ⟨(Lib.indexByte s c).toNat, by omega⟩
    obtain ⟨h1, h2, h3⟩ := byte_hit hi
    unfold Lib.splitK
    rw [index_byte, if_neg (by simp [hm]), hi]
    have e : ((i : Int).toNat + [c].length) = i + 1 := by simp
    have e2 : ((i : Int).toNat + 0) = i := by simp
    have hk : (s.drop (i + 1)).count c = k := by
      rw [h3, List.count_append, List.count_eq_zero.2 h2, List.count_cons] at h
      simp at h
      omega
    rw [e, e2, split_byte c k _ hk]
    conv => rhs; rw [h3]
    rw [splitC_app _ h2]
theorem splitC_len (c : UInt8) : ∀ s : List UInt8, (splitC c s).length = s.count c + 1
  | [] => rfl
  | x :: r => by
    have ih := splitC_len c r
    rw [splitC_cons, List.count_cons]
    by_cases h : x = c
    · rw [if_pos h, List.length_cons, ih]; simp [h]
    · rw [if_neg h]
      cases hq : splitC c r with
      | nil => exact absurd hq (splitC_ne c r)
      | cons p q => rw [hq] at ih; simp [h] at ih ⊢; omega
theorem splitC_le (c : UInt8) : ∀ (s : List UInt8) (p : List UInt8), p ∈ splitC c s → p.length ≤ s.length
  | [], p, h => by simp [splitC] at h; simp [h]
  | x :: r, p, h => by
    rw [splitC_cons] at h
    by_cases hx : x = c
    · rw [if_pos hx, List.mem_cons] at h
      rcases h with rfl | h
      · simp
      · have := splitC_le c r p h; simp; omega
    · rw [if_neg hx] at h
      cases hq : splitC c r with
      | nil => exact absurd hq (splitC_ne c r)
      | cons y q =>
        rw [hq] at h
        simp only [List.mem_cons] at h
        rcases h with rfl | h
        · have := splitC_le c r y (by rw [hq]; simp); simp; omega
        · have := splitC_le c r p (by rw [hq]; simp [h]); simp; omega
/-- What strings.Split gives at one byte. -/
theorem split_is (c : UInt8) (s : List UInt8) : (Lib.splitB ⟨#[c]⟩ 0 (Lib.countB ⟨s.toArray⟩ ⟨#[c]⟩) ⟨s.toArray⟩).map (·.data.toList) = splitC c s ∧ Lib.countB ⟨s.toArray⟩ ⟨#[c]⟩ + 1 = (splitC c s).length := by
  have hc : Lib.countB ⟨s.toArray⟩ ⟨#[c]⟩ = s.count c := by
    show Lib.count s [c] = _
    exact countFrom_any _ s (by omega)
  constructor
  · rw [Lib.splitB_data, hc]
    exact split_byte c _ s rfl
  · rw [hc, splitC_len]
theorem trim_is (s : List UInt8) : Lib.trimSuffix s [10] = trimN s := by
  unfold Lib.trimSuffix trimN
  by_cases h : s.getLast? = some 10
  · have hs := last_ten h
    have hx : Lib.hasSuffix s [10] = true := by
      unfold Lib.hasSuffix
      simp
      exact ⟨s.dropLast, hs.symm⟩
    rw [if_pos hx, if_pos h, List.dropLast_eq_take]
    rfl
  · have hx : Lib.hasSuffix s [10] = false := by
      rw [Bool.eq_false_iff]
      intro e
      unfold Lib.hasSuffix at e
      simp at e
      obtain ⟨t, ht⟩ := e
      rw [← ht] at h
      simp at h
    rw [hx, if_neg h]
    rfl
end Go.Proofs.YtcjhkfhogcdobaaDoor
