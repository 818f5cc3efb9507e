/- Contracts: a piece's box: a byte or more taken in. -/
import Derived.Test.YtcodncddaemhlaaDoorGlob1
import Derived.Test.YtcodncddaemhlaaDoorOwn
import Derived.Lib.Hide
import Derived.Test.YtcodncddaemhlaaDoorShelf
namespace Go.Proofs.YtcodncddaemhlaaDoor
open Go.RowKit

theorem lt_of_blockG {w : World} {b : Nat} {o : Obj} (h : w.heap[b]? = some o) : b < w.heap.size := (Array.getElem?_eq_some_iff.1 h).1
/-- A block that is known whole, none of it frozen. -/
def Blk (w : World) (b : Nat) (t : TypeId) (vs : List Value) : Prop := w.heap[b]? = some (.cells vs.toArray t (0, 0))
section
variable {w w' : World} {b : Nat} {t : TypeId} {vs : List Value}
theorem Blk.cell (h : Blk w b t vs) {j : Nat} {v : Value} (hj : vs[j]? = some v) : w.cell? ⟨b, j, none⟩ = some v := by
  unfold Blk at h
  simp [World.cell?, h, hj]
theorem Blk.free (h : Blk w b t vs) (j : Nat) : w.frozen? ⟨b, j, none⟩ = false := by
  unfold Blk at h
  simp [World.frozen?, h]
theorem Blk.lt (h : Blk w b t vs) : b < w.heap.size := lt_of_blockG h
theorem Blk.same (h : Blk w b t vs) (j : Nat) (u : Value) : Blk (w.setCell ⟨b, j, none⟩ u) b t (vs.set j u) := by
  unfold Blk
  rw [heap_setCell_same w b j vs.toArray t u h]
  simp
theorem Blk.below {B : Nat} (h : Blk w b t vs) (hb : Below B w w') (hB : b < B) : Blk w' b t vs := by
  unfold Blk
  rw [hb.block b hB]
  exact h
theorem Blk.new (w : World) (cs : Array Value) (t : TypeId) : Blk (w.alloc (.cells cs t)) w.heap.size t cs.toList := by
  unfold Blk
  rw [heap_alloc_new, Array.toArray_toList]
end
theorem measG {q : Nat} (h : q < 300) : 300 - (intOf (.int .i64 ((q : Int) + 1))).toNat < 300 - (intOf (.int .i64 (q : Int))).toNat := by
  simp only [intOf]
  omega
def pieceL (an : Bool) (ws : List Nat) : List Value := .bool an :: ws.map fun (x : Nat) => Value.int .u64 (x : Int)
theorem and63 : ∀ c : Fin 256, bits .and .i64 ((c.val : Nat) : Int) 63 = ((c.val % 64 : Nat) : Int) := by decide +kernel
theorem pieceL_at {an : Bool} {ws : List Nat} {q x : Nat} (h : ws[q]? = some x) : (pieceL an ws)[1 + q]? = some (.int .u64 (x : Int)) := by
  unfold pieceL
  rw [Nat.add_comm 1 q, List.getElem?_cons_succ, List.getElem?_map, h]
  rfl
theorem pieceL_set (an : Bool) (ws : List Nat) (q x : Nat) : (pieceL an ws).set (1 + q) (.int .u64 (x : Int)) = pieceL an (ws.set q x) := by
  unfold pieceL
  rw [Nat.add_comm 1 q, List.set_cons_succ, List.map_set]
set_option maxRecDepth 100000 in
set_option maxHeartbeats 1000000 in
theorem pcAdd_any (B b0 : Nat) (hB : B ≤ b0) (an : Bool) (ws : List Nat) (S : Nat → Bool) (a b : UInt8) (hab : a.toNat ≤ b.toNat) (w : World) (hblk : Blk w b0 141 (pieceL an ws)) (h : Wd ws S) :
    Calls Tryd.prog 102 #[.pointer (some ⟨b0, 0, none⟩), .int .u8 (a.toNat : Int), .int .u8 (b.toNat : Int)] w fun e w' => e = .returned (.tuple #[]) ∧ Below B w w' ∧ ∃ ws', Blk w' b0 141 (pieceL an ws') ∧ Wd ws' (addS S a b) := by
  have HBK := Lib.hid hblk
  have HW : Hid (Wd ws (upS S a a.toNat)) := Lib.hid (by rw [upS_zero]; exact h)
  have ha : a.toNat < 256 := a.toNat_lt
  have hb : b.toNat < 256 := b.toNat_lt
  have HE := Lib.hid (upS_end S a b)
  clear hblk h
  generalize hra : a.toNat = ra at *
  have HRA := Lib.hid hra
  clear hra
  generalize b.toNat = rb at *
  go_enter Tryd.func102, Tryd.ntmps102
  go_wp2_with fail
  go_loopw [6] (fun x wr => ∃ (c : Nat) (vs : List Nat), x = .int .i64 (c : Int) ∧ ra ≤ c ∧ c ≤ rb + 1 ∧ Hid (Wd vs (upS S a c)) ∧ Hid (Blk wr b0 141 (pieceL an vs)) ∧ Hid (Below B w wr)) (fun x _ => 300 - (intOf x).toNat)
  case atStart => exact ⟨ra, ws, rfl, Nat.le_refl _, by omega, HW, HBK, Lib.hid (Below.refl _ _)⟩
  case round =>
    clear HW HBK
    obtain ⟨c, vs, rfl, h1, h2, HW, HBK, HBW⟩ := hrel
    by_cases hc : c ≤ rb
    · obtain ⟨x, hx, hxb⟩ := wd_get HW.out (q := c / 64) (by omega)
      have c0 := HBK.out.cell (pieceL_at (an := an) hx)
      have f0 := HBK.out.free (1 + c / 64)
      have HX := Lib.hid hx
      have i0 : (c : Int) ≤ (rb : Int) := by omega
      have m63 := and63 ⟨c, by omega⟩
      simp only at m63
      have i1 : (c : Int) / 64 < 4 := by omega
      have i2 : 0 ≤ (c : Int) / 64 := by omega
      have i3 : ((c : Int) / 64).toNat = c / 64 := by omega
      clear hx
      go_wp2_with fail
      have HOR : Hid (Value.int .u64 (bits .or .u64 (x : Int) (IntKind.u64.wrap (2 ^ (c % 64)))) = .int .u64 ((x ||| 2 ^ (c % 64) : Nat) : Int)) := Lib.hid (by
        have hp : 2 ^ (c % 64) < 18446744073709551616 := Nat.lt_of_lt_of_le (Nat.pow_lt_pow_right (by decide) (Nat.mod_lt c (by decide : 64 > 0))) (by decide)
        have e := u64_or_nat x (2 ^ (c % 64)) hxb hp
        rw [shl_raw (c % 64) (Nat.mod_lt _ (by decide)), e])
      have HBK2 := Lib.hid (HBK.out.same (1 + c / 64) (.int .u64 ((x ||| 2 ^ (c % 64) : Nat) : Int)))
      have HBW2 := Lib.hid (HBW.out.setCell (p := ⟨b0, 1 + c / 64, none⟩) hB (.int .u64 ((x ||| 2 ^ (c % 64) : Nat) : Int)))
      rw [pieceL_set] at HBK2
      have HW2 := Lib.hid (wd_ext (wd_add HW.out (by omega) HX.out) (fun d _ => upS_succ S a (by rw [HRA.out]; exact h1) d))
      go_region
      rw [HOR.out]
      go_wp2_with fail
      exact ⟨⟨c + 1, _, rfl, by omega, by omega, HW2, HBK2, Lib.hid (Below.drew HBW2.out)⟩, measG (by omega)⟩
    · have hce : c = rb + 1 := by omega
      have i0 : ¬ (c : Int) ≤ (rb : Int) := by omega
      clear i0
      subst hce
      go_wp2_with fail
      go_end0
      exact ⟨rfl, HBW.out, vs, HBK.out, by rw [← HE.out]; exact HW.out⟩
theorem take_turn {ws : List Nat} {i x : Nat} (f : Nat → Nat) (h : ws[i]? = some x) : ((ws.take i).map f ++ ws.drop i).set i (f x) = (ws.take (i + 1)).map f ++ ws.drop (i + 1) := by
  obtain ⟨hi, hx⟩ := List.getElem?_eq_some_iff.1 h
  have hd : ws.drop i = x :: ws.drop (i + 1) := by rw [List.drop_eq_getElem_cons hi, hx]
  have ht : ws.take (i + 1) = ws.take i ++ [x] := by rw [List.take_add_one, h]; rfl
  have hl : ((ws.take i).map f).length = i := by rw [List.length_map, List.length_take]; omega
  rw [hd, ht, List.map_append, List.append_assoc]
  rw [List.set_append_right _ _ (by omega), hl, Nat.sub_self]
  rfl
theorem turn_at {ws : List Nat} {i x : Nat} (f : Nat → Nat) (h : ws[i]? = some x) : ((ws.take i).map f ++ ws.drop i)[i]? = some x := by
  obtain ⟨hi, _⟩ := List.getElem?_eq_some_iff.1 h
  have hl : ((ws.take i).map f).length = i := by rw [List.length_map, List.length_take]; omega
  rw [List.getElem?_append_right (by omega), hl, Nat.sub_self, List.getElem?_drop]
  exact h
theorem not_nat (x : Nat) (hx : x < 18446744073709551616) : 18446744073709551615 ^^^ x = 18446744073709551615 - x := by
  have h2 : x < 2 ^ 64 := hx
  have e : 18446744073709551615 - x = 2 ^ 64 - (x + 1) := by omega
  have e2 : (18446744073709551615 : Nat) = 2 ^ 64 - 1 := by decide
  rw [e]
  apply Nat.eq_of_testBit_eq
  intro i
  rw [Nat.testBit_two_pow_sub_succ h2, Nat.testBit_xor, e2, Nat.testBit_two_pow_sub_one]
  by_cases hi : i < 64
  · simp [hi]
  · have : x.testBit i = false := Nat.testBit_lt_two_pow (Nat.lt_of_lt_of_le h2 (Nat.pow_le_pow_right (by decide) (by omega)))
    simp [hi, this]
theorem not_raw (x : Nat) (hx : x < 18446744073709551616) : bits .xor .u64 (if IntKind.u64.signed = true then -1 else IntKind.u64.max) (x : Int) = ((18446744073709551615 - x : Nat) : Int) := by
  have e : (if IntKind.u64.signed = true then -1 else IntKind.u64.max) = ((18446744073709551615 : Nat) : Int) := by decide
  rw [e, u64_xor_nat _ _ (by decide) hx, not_nat x hx]
theorem measT {q : Nat} (h : q < 4) : 4 - (intOf (.int .i64 ((q : Int) + 1))).toNat < 4 - (intOf (.int .i64 (q : Int))).toNat := by
  simp only [intOf]
  omega
set_option maxRecDepth 100000 in
set_option maxHeartbeats 1000000 in
theorem pcTurn_any (B b0 : Nat) (hB : B ≤ b0) (an : Bool) (ws : List Nat) (S : Nat → Bool) (w : World) (hblk : Blk w b0 141 (pieceL an ws)) (h : Wd ws S) :
    Calls Tryd.prog 100 #[.pointer (some ⟨b0, 0, none⟩)] w fun e w' => e = .returned (.tuple #[]) ∧ Below B w w' ∧ ∃ ws', Blk w' b0 141 (pieceL an ws') ∧ Wd ws' (turnS S) := by
  have HBK := Lib.hid hblk
  have HW := Lib.hid h
  have hlen := h.len
  clear hblk h
  go_enter Tryd.func100, Tryd.ntmps100
  go_wp2_with fail
  go_loopw [2, 3] (fun _ x wr => ∃ (i : Nat), x = .int .i64 (i : Int) ∧ i ≤ 4 ∧ Hid (Blk wr b0 141 (pieceL an ((ws.take i).map (fun x => 18446744073709551615 - x) ++ ws.drop i))) ∧ Hid (Below B w wr)) (fun _ x _ => 4 - (intOf x).toNat)
  case atStart => exact ⟨0, rfl, Nat.zero_le _, HBK, Lib.hid (Below.refl _ _)⟩
  case round =>
    clear HBK
    obtain ⟨i, rfl, h2, HBK, HBW⟩ := hrel
    by_cases hi : i < 4
    · obtain ⟨x, hx, hxb⟩ := wd_get HW.out (q := i) hi
      have c0 := HBK.out.cell (pieceL_at (an := an) (turn_at _ hx))
      have f0 := HBK.out.free (1 + i)
      have HBK2 := Lib.hid (HBK.out.same (1 + i) (.int .u64 ((18446744073709551615 - x : Nat) : Int)))
      have HBW2 := Lib.hid (HBW.out.setCell (p := ⟨b0, 1 + i, none⟩) hB (.int .u64 ((18446744073709551615 - x : Nat) : Int)))
      rw [pieceL_set, take_turn _ hx] at HBK2
      have i0 : (i : Int) < 4 := by omega
      clear hx
      go_wp2_with fail
      have HNO : Hid (Value.int .u64 (bits .xor .u64 (if IntKind.u64.signed = true then -1 else IntKind.u64.max) (x : Int)) = .int .u64 ((18446744073709551615 - x : Nat) : Int)) := Lib.hid (by rw [not_raw x hxb])
      go_region
      rw [HNO.out]
      go_wp2_with fail
      exact ⟨⟨i + 1, rfl, by omega, HBK2, Lib.hid (Below.drew HBW2.out)⟩, measT hi⟩
    · obtain rfl : i = 4 := by omega
      go_wp2_with fail
      go_end0
      have ht : ws.take 4 = ws := List.take_of_length_le (by omega)
      have hd : ws.drop 4 = [] := List.drop_of_length_le (by omega)
      have hK := HBK.out
      rw [ht, hd, List.append_nil] at hK
      exact ⟨rfl, HBW.out, _, hK, wd_turn HW.out⟩
end Go.Proofs.YtcodncddaemhlaaDoor
/- Contracts: glob.odd: a byte that a set does not hold plainly. -/
namespace Go.Proofs.YtcodncddaemhlaaDoor
open Go.RowKit

theorem odd_fin : ∀ n : Fin 256, decide (0 ≤ Lib.indexByte [91, 93, 92, 45, 33] (UInt8.ofNat n.val)) = oddC (UInt8.ofNat n.val) := by decide +kernel
theorem odd_ix (c : UInt8) : decide (0 ≤ Lib.indexByte [91, 93, 92, 45, 33] c) = oddC c := by
  have h := odd_fin ⟨c.toNat, c.toNat_lt⟩
  have e : UInt8.ofNat c.toNat = c := by simp
  simp only [e] at h
  exact h
set_option maxRecDepth 100000 in
theorem pcOdd_any (c : UInt8) (w : World) : Calls Tryd.prog 106 #[.int .u8 (c.toNat : Int)] w fun e w' => e = .returned (.bool (oddC c)) ∧ w = w' := by
  have HI := Lib.hid (Tryd.strings_IndexByte ⟨#[91, 93, 92, 45, 33]⟩ (c.toNat : Int) w)
  have HO := Lib.hid (odd_ix c)
  go_enter Tryd.func106, Tryd.ntmps106
  go_wp2_with fail
  refine HI.out.mono ?_
  rintro e w' ⟨rfl, rfl⟩
  go_wp2_with fail
  go_ret
  exact ⟨ret_bool HO.out, rfl⟩
end Go.Proofs.YtcodncddaemhlaaDoor
