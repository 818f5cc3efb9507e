/- The library's Split at one byte, in plain Lean: the pieces of TextPlain. No program in sight. -/
import Derived.Test.YtoandhhkmkgmaaaGreatDoorTextPlain
import Derived.Lib.Split
import Derived.Test.YtoandhhkmkgmaaaGreatDoorDotPlain
import Derived.Test.YtoandhhkmkgmaaaGreatDoorGraphT0
import Derived.Test.YtoandhhkmkgmaaaGreatDoorShelfLog
import Derived.Test.YtoandhhkmkgmaaaGreatDoorOwnK
import Derived.Maps.AppendAt
import Derived.Deep.RegionHeld3
import Derived.Deep.RegionLaw
import Derived.Deep.AppendLies
import Derived.BigQuiet
import Derived.Deep.QuietTactic
namespace Go.Proofs.YtoandhhkmkgmaaaGreatDoor

theorem index_byte (c : UInt8) : ∀ s : List UInt8, Lib.index s [c] = Lib.indexByte s c
  | [] => rfl
  | b :: l => by
    unfold Lib.index Lib.indexByte
    rw [index_byte c l]
    have e : ([c].isPrefixOf (b :: l)) = (b == c) := by
      simp only [List.isPrefixOf, Bool.and_true]
      exact Bool.beq_comm
    rw [e]
theorem byte_miss {c : UInt8} : ∀ {s : List UInt8}, Lib.indexByte s c = -1 → c ∉ s
  | [], _ => by simp
  | b :: l, h => by
    unfold Lib.indexByte at h
    by_cases hb : b = c
    · rw [if_pos (by simp [hb])] at h; cases h
    · rw [if_neg (by simp [hb])] at h
      by_cases hm : Lib.indexByte l c = -1
      · have := byte_miss hm
        simp only [List.mem_cons, not_or]
        exact ⟨fun e => hb e.symm, this⟩
      · rw [if_neg (by simp [hm])] at h
        have := Lib.indexByte_ge l c
        omega
theorem byte_hit {c : UInt8} : ∀ {s : List UInt8} {i : Nat}, Lib.indexByte s c = (i : Int) → i < s.length ∧ c ∉ s.take i ∧ s = s.take i ++ c :: s.drop (i + 1)
  | [], i, h => by simp [Lib.indexByte] at h
  | b :: l, i, h => by
    unfold Lib.indexByte at h
    by_cases hb : b = c
    · rw [if_pos (by simp [hb])] at h
      obtain rfl : i = 0 := by omega
      exact ⟨by simp, by simp, by simp [hb]⟩
    · rw [if_neg (by simp [hb])] at h
      by_cases hm : Lib.indexByte l c = -1
      · rw [if_pos (by simp [hm])] at h; omega
      · rw [if_neg (by simp [hm])] at h
        have hge := Lib.indexByte_ge l c
        obtain ⟨j, hj⟩ : ∃ j : Nat, Lib.indexByte l c = (j : Int) := ⟨(Lib.indexByte l c).toNat, by omega⟩
        obtain rfl : i = j + 1 := by omega
        obtain ⟨h1, h2, h3⟩ := byte_hit hj
        refine ⟨by simp; omega, ?_, ?_⟩
        · rw [List.take_succ_cons, List.mem_cons, not_or]
          exact ⟨fun e => hb e.symm, h2⟩
        · rw [List.take_succ_cons, List.drop_succ_cons, List.cons_append, ← h3]
theorem count_byte_miss {c : UInt8} {s : List UInt8} (h : Lib.indexByte s c = -1) : Lib.count s [c] = 0 := by
  unfold Lib.count Lib.countFrom
  rw [index_byte, h]
  rfl
theorem countFrom_any {c : UInt8} : ∀ (f : Nat) (s : List UInt8), s.length < f → Lib.countFrom [c] f s = s.count c
  | 0, s, h => by omega
  | f + 1, s, h => by
    unfold Lib.countFrom
    rw [index_byte]
    by_cases hm : Lib.indexByte s c = -1
    · rw [if_pos (by simp [hm]), List.count_eq_zero.2 (byte_miss hm)]
    · have hge := Lib.indexByte_ge s c
      obtain ⟨i, hi⟩ : ∃ i : Nat, Lib.indexByte s c = (i : Int) := ⟨(Lib.indexByte s c).toNat, by omega⟩
      obtain ⟨h1, h2, h3⟩ := byte_hit hi
      rw [if_neg (by simp [hm]), hi]
      have e : ((i : Int).toNat + [c].length) = i + 1 := by simp
      rw [e, countFrom_any f _ (by rw [List.length_drop]; omega)]
      conv => rhs; rw [h3]
      rw [List.count_append, List.count_eq_zero.2 h2, List.count_cons]
      simp
      omega
theorem split_byte (c : UInt8) : ∀ (k : Nat) (s : List UInt8), s.count c = k → Lib.splitK [c] 0 k s = splitC c s
  | 0, s, h => by
    rw [splitC_free (List.count_eq_zero.1 h)]
    rfl
  | k + 1, s, h => by
    have hm : Lib.indexByte s c ≠ -1 := fun e => by rw [List.count_eq_zero.2 (byte_miss e)] at h; cases h
    have hge := Lib.indexByte_ge s c
    obtain ⟨i, hi⟩ : ∃ i : Nat, Lib.indexByte s c = (i : Int) := ⟨(Lib.indexByte s c).toNat, by omega⟩
    obtain ⟨h1, h2, h3⟩ := byte_hit hi
    unfold Lib.splitK
    rw [index_byte, if_neg (by simp [hm]), hi]
    have e : ((i : Int).toNat + [c].length) = i + 1 := by simp
    have e2 : ((i : Int).toNat + 0) = i := by simp
    have hk : (s.drop (i + 1)).count c = k := by
      rw [h3, List.count_append, List.count_eq_zero.2 h2, List.count_cons] at h
      simp at h
      omega
    rw [e, e2, split_byte c k _ hk]
    conv => rhs; rw [h3]
    rw [splitC_app _ h2]
theorem splitC_len (c : UInt8) : ∀ s : List UInt8, (splitC c s).length = s.count c + 1
  | [] => rfl
  | x :: r => by
    have ih := splitC_len c r
    rw [splitC_cons, List.count_cons]
    by_cases h : x = c
    · rw [if_pos h, List.length_cons, ih]; simp [h]
    · rw [if_neg h]
      cases hq : splitC c r with
      | nil => exact absurd hq (splitC_ne c r)
      | cons p q => rw [hq] at ih; simp [h] at ih ⊢; omega
theorem splitC_le (c : UInt8) : ∀ (s : List UInt8) (p : List UInt8), p ∈ splitC c s → p.length ≤ s.length
  | [], p, h => by simp [splitC] at h; simp [h]
  | x :: r, p, h => by
    rw [splitC_cons] at h
    by_cases hx : x = c
    · rw [if_pos hx, List.mem_cons] at h
      rcases h with rfl | h
      · simp
      · have := splitC_le c r p h; simp; omega
    · rw [if_neg hx] at h
      cases hq : splitC c r with
      | nil => exact absurd hq (splitC_ne c r)
      | cons y q =>
        rw [hq] at h
        simp only [List.mem_cons] at h
        rcases h with rfl | h
        · have := splitC_le c r y (by rw [hq]; simp); simp; omega
        · have := splitC_le c r p (by rw [hq]; simp [h]); simp; omega
/-- What strings.Split gives at one byte. -/
theorem split_is (c : UInt8) (s : List UInt8) : (Lib.splitB ⟨#[c]⟩ 0 (Lib.countB ⟨s.toArray⟩ ⟨#[c]⟩) ⟨s.toArray⟩).map (·.data.toList) = splitC c s ∧ Lib.countB ⟨s.toArray⟩ ⟨#[c]⟩ + 1 = (splitC c s).length := by
  have hc : Lib.countB ⟨s.toArray⟩ ⟨#[c]⟩ = s.count c := by
    show Lib.count s [c] = _
    exact countFrom_any _ s (by omega)
  constructor
  · rw [Lib.splitB_data, hc]
    exact split_byte c _ s rfl
  · rw [hc, splitC_len]
end Go.Proofs.YtoandhhkmkgmaaaGreatDoor
/- Contracts: slices.BinarySearch and name.Find at whatever list of texts; what a line of a drawing leaves in memory. -/
namespace Go.Proofs.YtoandhhkmkgmaaaGreatDoor
open Go.RowKit

def SrchPost (n : Nat) (w : World) (e : Ending) (w' : World) : Prop := ∃ (k : Nat) (b : Bool), k ≤ n ∧ e = .returned (.tuple #[.int .i64 (k : Int), .bool b]) ∧ w = w'
set_option maxHeartbeats 4000000 in
theorem search_all {A : Option Addr} {n c : Nat} (l : List (List UInt8)) (x : List UInt8) (w : World) (hr : Rd w A (l.map sv)) (hn : l.length = n) (hb : n ≤ 1099511627776) :
    Calls Tryz.prog 129 #[.slice A n c, sv x] w (SrchPost n w) := by
  have HR := Lib.hid hr
  have HN := Lib.hid hn
  have HL := Lib.hid (fun y => cLess_any y x w)
  have HNA := Lib.hid (fun y => sIsNaN_any y w)
  clear hr hn
  obtain ⟨bx, ebx⟩ : ∃ bx : ByteArray, bx = ⟨x.toArray⟩ := ⟨_, rfl⟩
  have HBX := Lib.hid ebx
  have hsv : sv x = .string bx := by rw [ebx]; rfl
  rw [hsv]
  rw [hsv] at HL
  clear hsv ebx
  go_enter Tryz.func129, Tryz.ntmps129
  go_wp2_with fail
  go_loop [7, 8, 9] (fun i j _ => ∃ p q : Nat, p ≤ q ∧ q ≤ n ∧ i = .int .i64 (p : Int) ∧ j = .int .i64 (q : Int)) (fun i j _ => (intOf j).toNat - (intOf i).toNat)
  case atStart => exact ⟨0, n, by omega, by omega, rfl, rfl⟩
  case round =>
    obtain ⟨p, q, hpq, hq, rfl, rfl⟩ := hrel
    by_cases hlt : p < q
    · have hm : (p + q) / 2 < n := by omega
      obtain ⟨y, hy⟩ : ∃ y, l[(p + q) / 2]? = some y := ⟨_, List.getElem?_eq_getElem (by rw [HN.out]; exact hm)⟩
      obtain ⟨b, off, rfl, hc⟩ := HR.out.scell hy
      have HC := Lib.hid (HL.out y)
      unfold sv at HC
      clear hy
      cases hq2 : ltS y x with
      | true =>
        have HQ := Lib.hid hq2
        clear hq2
        go_wp2_with fail
        refine HC.out.mono ?_
        rintro e w' ⟨rfl, rfl⟩
        rw [HQ.out]
        go_wp2_with fail
        go_round
        case rel => exact ⟨(p + q) / 2 + 1, q, by omega, by omega, by congr 1, rfl⟩
        case measure => simp [intOf]; omega
      | false =>
        have HQ := Lib.hid hq2
        clear hq2
        go_wp2_with fail
        refine HC.out.mono ?_
        rintro e w' ⟨rfl, rfl⟩
        rw [HQ.out]
        go_wp2_with fail
        go_round
        case rel => exact ⟨p, (p + q) / 2, by omega, by omega, rfl, by congr 1⟩
        case measure => simp [intOf]; omega
    · obtain rfl : p = q := by omega
      by_cases hpn : p < n
      · obtain ⟨y, hy⟩ : ∃ y, l[p]? = some y := ⟨_, List.getElem?_eq_getElem (by rw [HN.out]; exact hpn)⟩
        obtain ⟨b, off, rfl, hc⟩ := HR.out.scell hy
        have HEQ := Lib.hid (eq_sv y x)
        have HC1 := Lib.hid (HNA.out y)
        have HC2 := Lib.hid (HNA.out x)
        unfold sv at HC1 HC2
        rw [← HBX.out] at HEQ HC2
        generalize (⟨y.toArray⟩ : ByteArray) = byy at hc HEQ HC1
        clear hy
        by_cases he : y = x
        · have h1 : (byy.toList == bx.toList) = true := by rw [HEQ.out]; simp [he]
          clear he
          go_wp2_with fail
          go_ret2
          exact ⟨p, true, by omega, rfl, rfl⟩
        · have h1 : (byy.toList == bx.toList) = false := by rw [HEQ.out]; simp [he]
          clear he
          go_wp2_with fail
          refine HC1.out.mono ?_
          rintro e w' ⟨rfl, rfl⟩
          go_wp2_with fail
          go_ret2
          exact ⟨p, false, by omega, rfl, rfl⟩
      · obtain rfl : p = n := by omega
        go_wp2_with fail
        go_ret2
        exact ⟨p, false, by omega, rfl, rfl⟩
def FindAnyPost (l : List (List UInt8)) (x : List UInt8) (w : World) (e : Ending) (w' : World) : Prop := ∃ (i : Nat) (b : Bool), i ≤ l.length ∧ e = .returned (.tuple #[.int .i64 (i : Int), .bool b]) ∧ (Up l → (i : Int) = placeMax l x ∧ b = hasS l x) ∧ w = w'
theorem find_all {A : Option Addr} {n c : Nat} (l : List (List UInt8)) (x : List UInt8) (w : World) (hr : Rd w A (l.map sv)) (hn : l.length = n) (hb : n ≤ 1099511627776) :
    Calls Tryz.prog 72 #[.slice A n c, sv x] w (FindAnyPost l x w) := by
  by_cases hu : Up l
  · refine (nmFind_any (c := c) l x w hr hn hb hu).mono ?_
    rintro e w' ⟨rfl, rfl⟩
    have hp : ∃ i : Nat, i ≤ l.length ∧ (i : Int) = placeMax l x := by
      unfold placeMax
      by_cases hm : x ∈ l
      · rw [if_pos hm]; exact ⟨_, Nat.le_of_lt (List.idxOf_lt_length_iff.2 hm), rfl⟩
      · rw [if_neg hm]; exact ⟨0, Nat.zero_le _, rfl⟩
    obtain ⟨i, h1, h2⟩ := hp
    exact ⟨i, hasS l x, h1, by rw [h2], fun _ => ⟨h2, rfl⟩, rfl⟩
  · have HC := Lib.hid (search_all (c := c) l x w hr hn hb)
    have HU := Lib.hid hu
    have HN := Lib.hid hn
    clear hr hu hn
    unfold sv at *
    generalize (⟨x.toArray⟩ : ByteArray) = bx at *
    go_enter Tryz.func72, Tryz.ntmps72
    go_wp2_with fail
    refine HC.out.mono ?_
    rintro e w' ⟨k, b, hk, rfl, rfl⟩
    have HK := Lib.hid hk
    clear hk
    cases b with
    | true =>
      go_wp2_with fail
      go_ret2
      exact ⟨k, true, by rw [HN.out]; exact HK.out, rfl, fun h => absurd h HU.out, rfl⟩
    | false =>
      go_wp2_with fail
      go_ret2
      exact ⟨0, false, Nat.zero_le _, rfl, fun h => absurd h HU.out, rfl⟩

/-! ### The graph that is read, in memory -/
/-- All blocks below lo, but B, lie as they lay. -/
structure ButLo (lo B : Nat) (W W' : World) : Prop where
  os : W'.os = W.os
  tape : W'.tape = W.tape
  output : W'.output = W.output
  size : W.heap.size ≤ W'.heap.size
  block : ∀ k, k < lo → k ≠ B → W'.heap[k]? = W.heap[k]?
structure LS (lo B : Nat) (v1 v2 : Value) (G : GrT) (W : World) : Prop where
  blo : B < lo
  box : Blk W B 43 [v1, v2, .int .u64 (G.2.2.1 : Int), .int .u64 (G.2.2.2 : Int)]
  names : W.ownsRow lo 9 1 v1 G.1.length (G.1.map sv)
  edges : W.ownsRow lo 102 2 v2 G.2.1.length (eV G.2.1)
  apart : ∀ g, v1.ownBlock = some g → v2.ownBlock ≠ some g
  top : lo ≤ W.heap.size
theorem ButLo.refl (lo B : Nat) (W : World) : ButLo lo B W W := ⟨rfl, rfl, rfl, Nat.le_refl _, fun _ _ _ => rfl⟩
theorem ButLo.trans {lo B : Nat} {W W' W'' : World} (h : ButLo lo B W W') (k : ButLo lo B W' W'') : ButLo lo B W W'' :=
  ⟨k.os.trans h.os, k.tape.trans h.tape, k.output.trans h.output, Nat.le_trans h.size k.size, fun j h1 h2 => (k.block j h1 h2).trans (h.block j h1 h2)⟩
theorem ButLo.below {lo B b : Nat} {W W' W'' : World} (h : ButLo lo B W W') (k : Below b W' W'') (hb : lo ≤ b) : ButLo lo B W W'' :=
  ⟨k.os.trans h.os, k.tape.trans h.tape, k.output.trans h.output, Nat.le_trans h.size k.size, fun j h1 h2 => (k.block j (Nat.lt_of_lt_of_le h1 hb)).trans (h.block j h1 h2)⟩
theorem ButLo.grown {lo B : Nat} {r : Option Nat} {W W' W'' : World} (h : ButLo lo B W W') (k : W'.grownBy W'' r) (hr : ∀ g, r = some g → lo ≤ g) (hlo : lo ≤ W'.heap.size) : ButLo lo B W W'' :=
  ⟨k.os.trans h.os, k.tape.trans h.tape, k.output.trans h.output, Nat.le_trans h.size k.size, fun j h1 h2 => (k.block j (Nat.lt_of_lt_of_le h1 hlo) (fun e => by have := hr j e.symm; omega)).trans (h.block j h1 h2)⟩
theorem ButLo.set {lo B j : Nat} {W W' : World} (h : ButLo lo B W W') (u : Value) : ButLo lo B W (W'.setCell ⟨B, j, none⟩ u) :=
  ⟨h.os, h.tape, h.output, by simpa using h.size, fun k h1 h2 => (Below.heap_setCell _ _ _ _ h2).trans (h.block k h1 h2)⟩
theorem own_setB {b n z k j : Nat} {W : World} {t : TypeId} {v : Value} {xs : List Value} (h : W.ownsRow b t z v n xs) (hk : k < b) (u : Value) : (W.setCell ⟨k, j, none⟩ u).ownsRow b t z v n xs := by
  obtain ⟨h0, h | ⟨g, cap, cur, hv, hg, hkk, hr⟩⟩ := h
  · exact ⟨h0, .inl h⟩
  · exact ⟨h0, .inr ⟨g, cap, cur, hv, hg, (Below.heap_setCell _ _ _ _ (by show g ≠ k; omega)).trans hkk, hr⟩⟩
theorem own_gr {w w' : World} {B z : Nat} {r : Option Nat} {e : TypeId} {v : Value} {n : Nat} {xs : List Value} (h : w.ownsRow B e z v n xs) (hg : w.grownBy w' r) (hr : ∀ g, v.ownBlock = some g → r ≠ some g) : w'.ownsRow B e z v n xs :=
  h.kept hg (by
    cases hv : v.ownBlock with
    | none => exact .inl rfl
    | some g => exact .inr (fun e => hr g hv e.symm))
theorem own_lo {w : World} {B z : Nat} {e : TypeId} {v : Value} {n : Nat} {xs : List Value} (h : w.ownsRow B e z v n xs) : ∀ g, v.ownBlock = some g → B ≤ g := fun g hg => (h.lt g hg).1
section
variable {lo B : Nat} {v1 v2 : Value} {G : GrT} {W W' : World}
theorem LS.below (h : LS lo B v1 v2 G W) (hb : Below W.heap.size W W') : LS lo B v1 v2 G W' :=
  ⟨h.blo, h.box.below hb h.box.lt, own_belowK h.names hb, own_belowK h.edges hb, h.apart, Nat.le_trans h.top hb.size⟩
theorem LS.setP (h : LS lo B v1 v2 G W) (p : Nat) : LS lo B v1 v2 (G.1, G.2.1, p, G.2.2.2) (W.setCell ⟨B, 2, none⟩ (.int .u64 (p : Int))) :=
  ⟨h.blo, h.box.same 2 _, own_setB h.names h.blo _, own_setB h.edges h.blo _, h.apart, by simpa using h.top⟩
theorem LS.setM (h : LS lo B v1 v2 G W) (m : Nat) : LS lo B v1 v2 (G.1, G.2.1, G.2.2.1, m) (W.setCell ⟨B, 3, none⟩ (.int .u64 (m : Int))) :=
  ⟨h.blo, h.box.same 3 _, own_setB h.names h.blo _, own_setB h.edges h.blo _, h.apart, by simpa using h.top⟩
theorem LS.pushN (h : LS lo B v1 v2 G W) {g : Nat} {b : List UInt8} {c : Nat} (hg : W.grownBy W' v1.ownBlock) (hown : W'.ownsRow lo 9 1 (.slice (some ⟨g, 0, none⟩) (G.1.length + 1) c) (G.1.length + 1) (G.1.map sv ++ [sv b])) (hat : v1.ownBlock = some g ∨ g = W.heap.size) :
    LS lo B (.slice (some ⟨g, 0, none⟩) (G.1.length + 1) c) v2 (G.1 ++ [b], G.2.1, G.2.2.1, G.2.2.2) (W'.setCell ⟨B, 0, none⟩ (.slice (some ⟨g, 0, none⟩) (G.1.length + 1) c)) := by
  have hbox : Blk W' B 43 [v1, v2, .int .u64 (G.2.2.1 : Int), .int .u64 (G.2.2.2 : Int)] := by
    unfold Blk
    rw [hg.block B h.box.lt (fun e => by have := own_lo h.names B e.symm; have := h.blo; omega)]
    exact h.box
  refine ⟨h.blo, hbox.same 0 _, own_setB (by simpa using hown) h.blo _, own_setB (own_gr h.edges hg fun g' hg' e => h.apart g' e hg') h.blo _, ?_, by simpa using Nat.le_trans h.top hg.size⟩
  intro g' hg' he
  have e1 : g' = g := by simpa [Value.ownBlock] using hg'.symm
  subst e1
  rcases hat with hat | hat
  · exact h.apart _ hat he
  · have := (h.edges.lt g' he).2
    omega
theorem LS.pushE (h : LS lo B v1 v2 G W) {g : Nat} {e : EdgeT} {c : Nat} (hg : W.grownBy W' v2.ownBlock) (hown : W'.ownsRow lo 102 2 (.slice (some ⟨g, 0, none⟩) (G.2.1.length + 1) c) (G.2.1.length + 1) (eV G.2.1 ++ [.int .i64 e.1, .int .i64 e.2])) (hat : v2.ownBlock = some g ∨ g = W.heap.size) :
    LS lo B v1 (.slice (some ⟨g, 0, none⟩) (G.2.1.length + 1) c) (G.1, G.2.1 ++ [e], G.2.2.1, G.2.2.2) (W'.setCell ⟨B, 1, none⟩ (.slice (some ⟨g, 0, none⟩) (G.2.1.length + 1) c)) := by
  have hbox : Blk W' B 43 [v1, v2, .int .u64 (G.2.2.1 : Int), .int .u64 (G.2.2.2 : Int)] := by
    unfold Blk
    rw [hg.block B h.box.lt (fun e => by have := own_lo h.edges B e.symm; have := h.blo; omega)]
    exact h.box
  refine ⟨h.blo, hbox.same 1 _, own_setB (own_gr h.names hg fun g' hg' e => h.apart g' hg' e) h.blo _, own_setB (by rw [eV_snoc]; simpa using hown) h.blo _, ?_, by simpa using Nat.le_trans h.top hg.size⟩
  intro g' hg' he
  have e1 : g = g' := by simpa [Value.ownBlock] using he
  subst e1
  rcases hat with hat | hat
  · exact h.apart _ hg' hat
  · have := (h.names.lt g hg').2
    omega
end
end Go.Proofs.YtoandhhkmkgmaaaGreatDoor
/- Contract: dot.line. Texts of at most 2^20 bytes; the graph that is read holds at most 64 names; bytealg.MaxLen's cell lies. -/
namespace Go.Proofs.YtoandhhkmkgmaaaGreatDoor
open Go.RowKit

theorem splitB_cells (s : List UInt8) : (Lib.splitB ⟨#[34]⟩ 0 (Lib.countB ⟨s.toArray⟩ ⟨#[34]⟩) ⟨s.toArray⟩).map Value.string = (splitC 34 s).map sv := by
  rw [← (split_is 34 s).1, List.map_map]
  rfl
theorem dSplit_any (s : List UInt8) (mx : Int) (W : World) (hs : s.length ≤ 1048576) (hm : W.cell? ⟨1, 0, none⟩ = some (.int .i64 mx)) :
    Calls Tryz.prog 111 #[.string ⟨s.toArray⟩, .string ⟨#[34]⟩] W fun e W' => e = .returned (.slice (some ⟨W.heap.size, 0, none⟩) (splitC 34 s).length (splitC 34 s).length) ∧ W' = W.alloc (.cells ((splitC 34 s).map sv).toArray 9) := by
  refine (Tryz.strings_Split ⟨s.toArray⟩ ⟨#[34]⟩ mx W (by simp only [ByteArray.size, List.size_toArray]; omega) hm (by decide)).mono ?_
  rintro e w' ⟨rfl, rfl⟩
  rw [splitB_cells, (split_is 34 s).2]
  exact ⟨rfl, rfl⟩
def LinePost (lo B : Nat) (G : GrT) (s : List UInt8) (W : World) (e : Ending) (W' : World) : Prop := ∃ ok G' v1 v2, e = .returned (.bool ok) ∧ LineRel G s ok G' ∧ LS lo B v1 v2 G' W' ∧ ButLo lo B W W'
theorem lineRel_other {G : GrT} {s : List UInt8} (h3 : (splitC 34 s).length ≠ 3) (h5 : (splitC 34 s).length ≠ 5) : LineRel G s false G := by
  unfold LineRel
  split
  · rename_i h; rw [h] at h3; exact absurd rfl h3
  · rename_i h; rw [h] at h5; exact absurd rfl h5
  · exact ⟨rfl, rfl⟩
theorem len_three {l : List (List UInt8)} (h : l.length = 3) : ∃ a b c, l = [a, b, c] := by
  rcases l with _ | ⟨a, _ | ⟨b, _ | ⟨c, _ | ⟨f, r⟩⟩⟩⟩
  all_goals first | exact ⟨_, _, _, rfl⟩ | (simp at h; done) | (simp at h; omega)
theorem len_five {l : List (List UInt8)} (h : l.length = 5) : ∃ a b c d e, l = [a, b, c, d, e] := by
  rcases l with _ | ⟨a, _ | ⟨b, _ | ⟨c, _ | ⟨d, _ | ⟨e, _ | ⟨f, r⟩⟩⟩⟩⟩⟩
  all_goals first | exact ⟨_, _, _, _, _, rfl⟩ | (simp at h; done) | (simp at h; omega)
theorem slice_of_own {w : World} {B n z : Nat} {e : TypeId} {v : Value} {xs : List Value} (h : w.ownsRow B e z v n xs) : ∃ A c, v = .slice A n c := by
  obtain ⟨_, ⟨hv, hn⟩ | ⟨g, cap, cur, hv, _⟩⟩ := h
  · subst hn; exact ⟨none, 0, hv⟩
  · exact ⟨_, cap, hv⟩
theorem elEdgeD : Tryz.prog.underlying 40 = some (.slice 102) ∧ ∃ i, Tryz.prog.info? 102 = some i ∧ i.zero = some (.agg #[.int .i64 0, .int .i64 0]) ∧ i.size = 2 ∧ i.bytes = 16 ∧ (Value.agg #[.int .i64 0, .int .i64 0]).cells.size = 2 := elEdge
theorem elStrQ : Tryz.prog.underlying 22 = some (.slice 9) ∧ ∃ i, Tryz.prog.info? 9 = some i ∧ i.zero = some (.string ⟨#[]⟩) ∧ i.size = 1 ∧ i.bytes = 16 ∧ (Value.string ⟨#[]⟩).cells.size = 1 := by
  refine ⟨Tryz.underlying22, ?_⟩
  have h := infoStr
  cases hi : Tryz.prog.info? 9 with
  | none => rw [hi] at h; cases h
  | some i =>
    rw [hi] at h
    simp at h
    exact ⟨i, rfl, h.1, h.2.1, h.2.2, by rfl⟩
theorem lsDrew {lo B : Nat} {v1 v2 : Value} {G : GrT} {W : World} (h : LS lo B v1 v2 G W) : LS lo B v1 v2 G W.drew := ⟨h.blo, h.box, h.names, h.edges, h.apart, h.top⟩
theorem ButLo.drew {lo B : Nat} {W W' : World} (h : ButLo lo B W W') : ButLo lo B W W'.drew := ⟨h.os, h.tape, h.output, h.size, h.block⟩
section
variable {lo B : Nat} {v1 v2 : Value} {N : List (List UInt8)} {E : List EdgeT} {p m : Nat} {W : World} (h : LS lo B v1 v2 (N, E, p, m) W) (s : List UInt8) (hs : s.length ≤ 1048576) (mx : Int) (hmx : W.cell? ⟨1, 0, none⟩ = some (.int .i64 mx))
include h hs hmx
set_option maxRecDepth 100000 in
set_option maxHeartbeats 4000000 in
theorem dLine_other (h3 : (splitC 34 s).length ≠ 3) (h5 : (splitC 34 s).length ≠ 5) : Calls Tryz.prog 55 #[.pointer (some ⟨B, 0, none⟩), .string ⟨s.toArray⟩] W (LinePost lo B (N, E, p, m) s W) := by
  have HC := Lib.hid (dSplit_any s mx W hs hmx)
  have HO := Lib.hid (lineRel_other (G := (N, E, p, m)) h3 h5)
  have HB := Lib.hid (below_new (Below.refl W.heap.size W) (.cells ((splitC 34 s).map sv).toArray 9))
  have HL := Lib.hid (h.below HB.out)
  have HT := Lib.hid h.top
  generalize (splitC 34 s).length = q at *
  generalize W.alloc (.cells ((splitC 34 s).map sv).toArray 9) = W1 at *
  have q3 : ((q : Int) == 3) = false := by simp; omega
  have q5 : ((q : Int) == 5) = false := by simp; omega
  clear h hs hmx h3 h5
  generalize (⟨s.toArray⟩ : ByteArray) = sb at *
  go_enter Tryz.func55, Tryz.ntmps55
  go_wp2_with fail
  refine HC.out.mono ?_
  rintro e w' ⟨rfl, rfl⟩
  go_wp2_with fail
  go_ret
  exact ⟨false, (N, E, p, m), v1, v2, rfl, HO.out, HL.out, (ButLo.refl _ _ _).below HB.out HT.out⟩
set_option maxRecDepth 100000 in
set_option maxHeartbeats 4000000 in
theorem dLine_full {a b c : List UInt8} (h3 : splitC 34 s = [a, b, c]) (h64 : N.length = 64) : Calls Tryz.prog 55 #[.pointer (some ⟨B, 0, none⟩), .string ⟨s.toArray⟩] W (LinePost lo B (N, E, p, m) s W) := by
  have HC := Lib.hid (dSplit_any s mx W hs hmx)
  rw [h3] at HC
  have HRR : Hid (LineRel (N, E, p, m) s false (N, E, p, m)) := Lib.hid (by unfold LineRel; rw [h3]; dsimp only; rw [if_pos h64]; exact ⟨rfl, rfl⟩)
  have HB := Lib.hid (below_new (Below.refl W.heap.size W) (.cells #[sv a, sv b, sv c] 9))
  have HL := Lib.hid (h.below HB.out)
  have HT := Lib.hid h.top
  obtain ⟨A1, c1, hv1⟩ := slice_of_own h.names
  dsimp only at hv1
  subst hv1
  simp only [List.map_cons, List.map_nil] at HC
  have m0 : (W.alloc (.cells #[sv a, sv b, sv c] 9)).cell? ⟨B, 0, none⟩ = some (.slice A1 N.length c1) := HL.out.box.cell (j := 0) rfl
  clear h hs hmx h3
  generalize hS : W.heap.size = S at *
  generalize hW1 : W.alloc (.cells #[sv a, sv b, sv c] 9) = W1 at *
  have HW1 := Lib.hid hW1
  clear hW1
  generalize (⟨s.toArray⟩ : ByteArray) = sb at *
  have q64 : ((N.length : Int) == 64) = true := by simp [h64]
  clear h64
  go_enter Tryz.func55, Tryz.ntmps55
  go_wp2_with fail
  refine HC.out.mono ?_
  rintro e w' ⟨rfl, hw⟩
  rw [hw]
  go_wp2_with fail
  go_ret
  exact ⟨false, _, _, v2, rfl, HRR.out, HL.out, (ButLo.refl _ _ _).below (hS ▸ HB.out) HT.out⟩
variable (hN : N.length ≤ 64) (hp : B64 p) (hm : B64 m) (hg1 : 1 < lo) (hg2 : 1 ≠ B)
include hN hp hm hg1 hg2
set_option maxRecDepth 100000 in
set_option maxHeartbeats 4000000 in
theorem dLine_node {a b c : List UInt8} (h3 : splitC 34 s = [a, b, c]) (h64 : N.length ≠ 64) : Calls Tryz.prog 55 #[.pointer (some ⟨B, 0, none⟩), .string ⟨s.toArray⟩] W (LinePost lo B (N, E, p, m) s W) := by
  have HC := Lib.hid (dSplit_any s mx W hs hmx)
  rw [h3] at HC
  have HR : Hid (LineRel (N, E, p, m) s true (N ++ [b], E, (if hasT c [112, 104, 111, 110, 121] then addN p N.length else p), if hasT c [109, 97, 100, 101] then addN m N.length else m)) := Lib.hid (by unfold LineRel; rw [h3]; dsimp only; rw [if_neg h64]; exact ⟨rfl, rfl⟩)
  have HCS : Hid (c.length ≤ 1048576) := Lib.hid (Nat.le_trans (splitC_le 34 s c (by rw [h3]; simp)) hs)
  have HB := Lib.hid (below_new (Below.refl W.heap.size W) (.cells #[sv a, sv b, sv c] 9))
  have HL := Lib.hid (h.below HB.out)
  have HT := Lib.hid h.top
  have HS := Lib.hid (Blk.new W #[sv a, sv b, sv c] 9)
  have HMX := Lib.hid (cell_alloc hmx (.cells #[sv a, sv b, sv c] 9))
  have HG1 := Lib.hid hg1
  have HG2 := Lib.hid hg2
  have HHM := Lib.hid hm
  have HHP := Lib.hid hp
  obtain ⟨A1, c1, hv1⟩ := slice_of_own h.names
  dsimp only at hv1
  subst hv1
  have HNB : Hid (∀ g, (Value.slice A1 N.length c1).ownBlock = some g → g < W.heap.size) := Lib.hid (fun g hg => (h.names.lt g hg).2)
  have hlk : W.heap.size ≠ B := by have := h.box.lt; omega
  have HSL : Hid (lo ≤ W.heap.size) := Lib.hid h.top
  have hk64 : N.length < 64 := by omega
  clear h hs hmx hg1 hg2 h3 hp hm
  simp only [List.map_cons, List.map_nil] at HC
  have HBW : Hid (ButLo lo B W (W.alloc (.cells #[sv a, sv b, sv c] 9))) := Lib.hid ((ButLo.refl _ _ _).below HB.out HT.out)
  generalize hS : W.heap.size = S at *
  generalize hW1 : W.alloc (.cells #[sv a, sv b, sv c] 9) = W1 at *
  have HW1 := Lib.hid hW1
  clear hW1 HB
  generalize (⟨s.toArray⟩ : ByteArray) = sb at *
  have m0 : W1.cell? ⟨B, 0, none⟩ = some (.slice A1 N.length c1) := HL.out.box.cell (j := 0) rfl
  have y1 : W1.cell? ⟨S, 1, none⟩ = some (sv b) := HS.out.cell (j := 1) rfl
  have y2 : W1.cell? ⟨S, 2, none⟩ = some (sv c) := HS.out.cell (j := 2) rfl
  unfold sv at y1 y2
  have q64 : ((N.length : Int) == 64) = false := by simp; omega
  obtain ⟨ht, i0, hi, hz, hs1, hby, hzs⟩ := elStrQ
  have hb0 : Below W1.heap.size W1 (W1.drew.alloc (.cells #[.string ⟨b.toArray⟩] 9)) := drew_alloc_below W1 _
  have HLA := Lib.hid (HL.out.below hb0)
  have HBA := Lib.hid (HBW.out.below hb0 HL.out.top)
  have H1 : Hid ((W1.drew.alloc (.cells #[.string ⟨b.toArray⟩] 9)).ownsRow lo 9 1 (.slice A1 N.length c1) N.length (N.map sv)) := Lib.hid HLA.out.names
  have H2 : Hid (∀ j u, ([.string ⟨b.toArray⟩] : List Value)[j]? = some u → (W1.drew.alloc (.cells #[.string ⟨b.toArray⟩] 9)).cell? ((⟨W1.heap.size, 0, none⟩ : Addr).add j) = some u) := Lib.hid (cell_one_new W1.drew _ _)
  have H3 : Hid (∀ u ∈ ([.string ⟨b.toArray⟩] : List Value), u.oneCell' = true) := Lib.hid (by intro u hu; simp at hu; subst hu; rfl)
  have HT9 : Hid (∀ w9, (W1.drew.alloc (.cells #[.string ⟨b.toArray⟩] 9)).grownBy w9 (Value.slice A1 N.length c1).ownBlock → w9.cell? ⟨B, 0, none⟩ = some (.slice A1 N.length c1) ∧ w9.frozen? ⟨B, 0, none⟩ = false) := Lib.hid (fun w9 hg => by
    have hbox : Blk w9 B 43 [.slice A1 N.length c1, v2, .int .u64 (p : Int), .int .u64 (m : Int)] := by
      unfold Blk
      rw [hg.block B HLA.out.box.lt (fun e => by have := own_lo HLA.out.names B e.symm; have := HLA.out.blo; omega)]
      exact HLA.out.box
    exact ⟨hbox.cell (j := 0) rfl, hbox.free 0⟩)
  have a1 : (W1.drew.alloc (.cells #[.string ⟨b.toArray⟩] 9)).cell? ⟨B, 0, none⟩ = some (.slice A1 N.length c1) := cell_alloc (w := W1.drew) m0 _
  have b1 : (W1.alloc (.cells #[.string ⟨b.toArray⟩] 9)).cell? ⟨B, 0, none⟩ = some (.slice A1 N.length c1) := cell_alloc m0 _
  have d1 : W1.drew.cell? ⟨B, 0, none⟩ = some (.slice A1 N.length c1) := m0
  have d2 : W1.drew.cell? ⟨S, 1, none⟩ = some (.string ⟨b.toArray⟩) := y1
  clear hb0
  go_enter Tryz.func55, Tryz.ntmps55
  go_wp2_with fail
  refine HC.out.mono ?_
  rintro e w' ⟨rfl, hw⟩
  rw [hw]
  clear HW1 HC
  go_upto_region 7 with fail
  go_region_law
    (refine step_append_lies _ rfl (.tmp 28) (.tmp 32) 22 rfl lo 9 i0 _ 1 16 ht hi hz hs1 hby hzs (by decide) (.slice A1 N.length c1) N.length (N.map sv) (by simp [Act.eval]) H1.out ⟨W1.heap.size, 0, none⟩ 1 1 [.string ⟨b.toArray⟩] (by simp [Act.eval]) rfl H2.out H3.out (by decide) (by unfold maxLen; omega) (by omega) HLA.out.top _ rfl ?_; intro g7 c7 w7 hown7 hg7 hat7 _; obtain ⟨t1, tf⟩ := HT9.out w7 hg7)
  all_goals (
    have HL7 := Lib.hid (HLA.out.pushN hg7 hown7 (hat7.imp id (fun e => e)))
    have HB7 := Lib.hid ((HBA.out.grown hg7 (own_lo HLA.out.names) HLA.out.top).set (j := 0) (.slice (some ⟨g7, 0, none⟩) (N.length + 1) c7))
    have HMX7 : Hid ((w7.setCell ⟨B, 0, none⟩ (.slice (some ⟨g7, 0, none⟩) (N.length + 1) c7)).cell? ⟨1, 0, none⟩ = some (.int .i64 mx)) := Lib.hid (by
      rw [World.cell?_of_block (HB7.out.block _ HG1.out HG2.out), ← World.cell?_of_block (HBW.out.block _ HG1.out HG2.out)]
      exact HMX.out)
    have y2' : (w7.setCell ⟨B, 0, none⟩ (.slice (some ⟨g7, 0, none⟩) (N.length + 1) c7)).cell? ⟨S, 2, none⟩ = some (.string ⟨c.toArray⟩) := by
      rw [World.cell?_of_block (Below.heap_setCell _ _ _ _ hlk), World.cell?_of_block (hg7.block S (by have := HS.out.lt; simp; omega) (fun e => by have := HNB.out S e.symm; omega))]
      exact cell_alloc (w := W1.drew) y2 _
    generalize w7.setCell ⟨B, 0, none⟩ (.slice (some ⟨g7, 0, none⟩) (N.length + 1) c7) = w8 at *
    have HCT := Lib.hid (fun (sub : ByteArray) => Tryz.strings_Contains ⟨c.toArray⟩ sub mx w8 (by have := HCS.out; simp only [ByteArray.size, List.size_toArray]; omega) HMX7.out)
    clear hown7 hg7 hat7 t1 tf a1 b1 d1 d2 m0 y1 y2
    go_simp
    go_wp2_with fail
    refine (HCT.out ⟨#[109, 97, 100, 101]⟩).mono ?_
    rintro e w' ⟨rfl, hw⟩
    rw [hw]
    clear hw
    cases hcm : hasT c [109, 97, 100, 101] with
    | true =>
      have hcm' : Lib.contains (⟨c.toArray⟩ : ByteArray).data.toList (⟨#[109, 97, 100, 101]⟩ : ByteArray).data.toList = true := hcm
      have HCM := Lib.hid hcm
      rw [hcm']
      clear hcm hcm'
      have m3 : w8.cell? ⟨B, 3, none⟩ = some (.int .u64 (m : Int)) := HL7.out.box.cell (j := 3) rfl
      have f3 := HL7.out.box.free 3
      have her := or_raw m N.length HHM.out hk64
      have HL9 := Lib.hid (lsDrew (HL7.out.setM (addN m N.length)))
      have HB9 := Lib.hid (HB7.out.set (j := 3) (.int .u64 ((addN m N.length : Nat) : Int))).drew
      have y9 : (w8.setCell ⟨B, 3, none⟩ (.int .u64 ((addN m N.length : Nat) : Int))).drew.cell? ⟨S, 2, none⟩ = some (.string ⟨c.toArray⟩) := (World.cell?_of_block (Below.heap_setCell _ _ _ _ hlk)).trans y2'
      have HMX9 : Hid ((w8.setCell ⟨B, 3, none⟩ (.int .u64 ((addN m N.length : Nat) : Int))).drew.cell? ⟨1, 0, none⟩ = some (.int .i64 mx)) := Lib.hid ((World.cell?_of_block (Below.heap_setCell _ _ _ _ HG2.out)).trans HMX7.out)
      go_wp2_with fail
      go_region
      all_goals (
        generalize (w8.setCell ⟨B, 3, none⟩ (.int .u64 ((addN m N.length : Nat) : Int))).drew = w9 at *
        have HCP := Lib.hid (fun (sub : ByteArray) => Tryz.strings_Contains ⟨c.toArray⟩ sub mx w9 (by have := HCS.out; simp only [ByteArray.size, List.size_toArray]; omega) HMX9.out)
        clear m3 f3 her
        go_wp2_with fail
        refine (HCP.out ⟨#[112, 104, 111, 110, 121]⟩).mono ?_
        rintro e w' ⟨rfl, hw⟩
        rw [hw]
        clear hw
        cases hcp : hasT c [112, 104, 111, 110, 121] with
        | true =>
          have hcp' : Lib.contains (⟨c.toArray⟩ : ByteArray).data.toList (⟨#[112, 104, 111, 110, 121]⟩ : ByteArray).data.toList = true := hcp
          rw [hcp']
          have HRR : Hid (LineRel (N, E, p, m) s true (N ++ [b], E, addN p N.length, addN m N.length)) := Lib.hid (by have h := HR.out; rw [HCM.out, hcp] at h; exact h)
          clear hcp hcp'
          have p2 : w9.cell? ⟨B, 2, none⟩ = some (.int .u64 (p : Int)) := HL9.out.box.cell (j := 2) rfl
          have f2 := HL9.out.box.free 2
          have her2 := or_raw p N.length HHP.out hk64
          have HLZ := Lib.hid (HL9.out.setP (addN p N.length))
          have HBZ := Lib.hid (HB9.out.set (j := 2) (.int .u64 ((addN p N.length : Nat) : Int)))
          go_wp2_with fail
          go_region
          all_goals (
            go_wp2_with fail
            go_ret
            exact ⟨true, _, _, _, rfl, HRR.out, lsDrew HLZ.out, HBZ.out.drew⟩)
        | false =>
          have hcp' : Lib.contains (⟨c.toArray⟩ : ByteArray).data.toList (⟨#[112, 104, 111, 110, 121]⟩ : ByteArray).data.toList = false := hcp
          rw [hcp']
          have HRR : Hid (LineRel (N, E, p, m) s true (N ++ [b], E, p, addN m N.length)) := Lib.hid (by have h := HR.out; rw [HCM.out, hcp] at h; exact h)
          clear hcp hcp'
          go_wp2_with fail
          go_ret
          exact ⟨true, _, _, _, rfl, HRR.out, HL9.out, HB9.out⟩)
    | false =>
      have hcm' : Lib.contains (⟨c.toArray⟩ : ByteArray).data.toList (⟨#[109, 97, 100, 101]⟩ : ByteArray).data.toList = false := hcm
      have HCM := Lib.hid hcm
      rw [hcm']
      clear hcm hcm'
      have HCP := HCT
      go_wp2_with fail
      refine (HCP.out ⟨#[112, 104, 111, 110, 121]⟩).mono ?_
      rintro e w' ⟨rfl, hw⟩
      rw [hw]
      clear hw
      cases hcp : hasT c [112, 104, 111, 110, 121] with
      | true =>
        have hcp' : Lib.contains (⟨c.toArray⟩ : ByteArray).data.toList (⟨#[112, 104, 111, 110, 121]⟩ : ByteArray).data.toList = true := hcp
        rw [hcp']
        have HRR : Hid (LineRel (N, E, p, m) s true (N ++ [b], E, addN p N.length, m)) := Lib.hid (by have h := HR.out; rw [HCM.out, hcp] at h; exact h)
        clear hcp hcp'
        have p2 : w8.cell? ⟨B, 2, none⟩ = some (.int .u64 (p : Int)) := HL7.out.box.cell (j := 2) rfl
        have f2 := HL7.out.box.free 2
        have her2 := or_raw p N.length HHP.out hk64
        have HLZ := Lib.hid (HL7.out.setP (addN p N.length))
        have HBZ := Lib.hid (HB7.out.set (j := 2) (.int .u64 ((addN p N.length : Nat) : Int)))
        go_wp2_with fail
        go_region
        all_goals (
          go_wp2_with fail
          go_ret
          exact ⟨true, _, _, _, rfl, HRR.out, lsDrew HLZ.out, HBZ.out.drew⟩)
      | false =>
        have hcp' : Lib.contains (⟨c.toArray⟩ : ByteArray).data.toList (⟨#[112, 104, 111, 110, 121]⟩ : ByteArray).data.toList = false := hcp
        rw [hcp']
        have HRR : Hid (LineRel (N, E, p, m) s true (N ++ [b], E, p, m)) := Lib.hid (by have h := HR.out; rw [HCM.out, hcp] at h; exact h)
        clear hcp hcp'
        go_wp2_with fail
        go_ret
        exact ⟨true, _, _, _, rfl, HRR.out, HL7.out, HB7.out⟩)
omit hN hp hm hg1 hg2 in
set_option maxRecDepth 100000 in
set_option maxHeartbeats 4000000 in
theorem dLine_link (hE : E.length ≤ 1048576) (hN : N.length ≤ 64) {a b c d e : List UInt8} (h5 : splitC 34 s = [a, b, c, d, e]) : Calls Tryz.prog 55 #[.pointer (some ⟨B, 0, none⟩), .string ⟨s.toArray⟩] W (LinePost lo B (N, E, p, m) s W) := by
  have HC := Lib.hid (dSplit_any s mx W hs hmx)
  rw [h5] at HC
  have HR : Hid (∀ (i j : Int) (fa fb : Bool), (Up N → i = placeMax N b ∧ fa = hasS N b) → (Up N → j = placeMax N d ∧ fb = hasS N d) → LineRel (N, E, p, m) s (fa && fb) (N, E ++ [(i, j)], p, m)) := Lib.hid (fun i j fa fb k1 k2 => by
    unfold LineRel
    rw [h5]
    exact ⟨i, j, fa, fb, rfl, rfl, fun hu => ⟨(k1 hu).1, (k1 hu).2, (k2 hu).1, (k2 hu).2⟩⟩)
  have HB := Lib.hid (below_new (Below.refl W.heap.size W) (.cells #[sv a, sv b, sv c, sv d, sv e] 9))
  have HL := Lib.hid (h.below HB.out)
  have HT := Lib.hid h.top
  have HS := Lib.hid (Blk.new W #[sv a, sv b, sv c, sv d, sv e] 9)
  obtain ⟨A1, c1, hv1⟩ := slice_of_own h.names
  obtain ⟨A2, c2, hv2⟩ := slice_of_own h.edges
  dsimp only at hv1 hv2
  subst hv1 hv2
  have hlk : W.heap.size ≠ B := by have := h.box.lt; omega
  clear h hs hmx h5
  simp only [List.map_cons, List.map_nil] at HC
  have HBW : Hid (ButLo lo B W (W.alloc (.cells #[sv a, sv b, sv c, sv d, sv e] 9))) := Lib.hid ((ButLo.refl _ _ _).below HB.out HT.out)
  generalize hS : W.heap.size = S at *
  generalize hW1 : W.alloc (.cells #[sv a, sv b, sv c, sv d, sv e] 9) = W1 at *
  clear hW1 HB
  generalize (⟨s.toArray⟩ : ByteArray) = sb at *
  have m0 : W1.cell? ⟨B, 0, none⟩ = some (.slice A1 N.length c1) := HL.out.box.cell (j := 0) rfl
  have m1 : W1.cell? ⟨B, 1, none⟩ = some (.slice A2 E.length c2) := HL.out.box.cell (j := 1) rfl
  have y1 : W1.cell? ⟨S, 1, none⟩ = some (sv b) := HS.out.cell (j := 1) rfl
  have y3 : W1.cell? ⟨S, 3, none⟩ = some (sv d) := HS.out.cell (j := 3) rfl
  have HF1 := Lib.hid (fun W2 (hW : Rd W2 A1 (N.map sv)) => find_all (c := c1) N b W2 hW rfl (by omega))
  have HF2 := Lib.hid (fun W2 (hW : Rd W2 A1 (N.map sv)) => find_all (c := c1) N d W2 hW rfl (by omega))
  have HRD : Hid (Rd W1 A1 (N.map sv)) := Lib.hid (Rd.of_own HL.out.names)
  have HRD2 : Hid (Rd W1.drew A1 (N.map sv)) := Lib.hid HRD.out
  unfold sv at y1 y3
  have hsv : ∀ x : List UInt8, sv x = .string ⟨x.toArray⟩ := fun _ => rfl
  rw [hsv b] at HF1
  rw [hsv d] at HF2
  clear hsv
  obtain ⟨ht, i0, hi, hz, hs1, hby, hzs⟩ := elEdgeD
  go_enter Tryz.func55, Tryz.ntmps55
  go_wp2_with fail
  refine HC.out.mono ?_
  rintro e' w' ⟨rfl, hw⟩
  rw [hw]
  clear hw HC
  go_wp2_with fail
  go_region_held3 (fun w' => w'.cell? ⟨B, 0, none⟩ = some (.slice A1 N.length c1) ∧ w'.cell? ⟨S, 1, none⟩ = some (.string ⟨b.toArray⟩))
    ((refine ⟨?_, ?_⟩ <;> assumption))
    ((first
      | (go_at_call 72; (with_reducible refine (HF1.out _ HRD2.out).mono ?_); rintro e5 u5 ⟨ia, fa, hia, rfl, hua, rfl⟩)))
  have HUA := Lib.hid hua
  have HL2 := Lib.hid (lsDrew HL.out)
  have HBW2 := Lib.hid HBW.out.drew
  have n0 : W1.drew.cell? ⟨B, 0, none⟩ = some (.slice A1 N.length c1) := m0
  have n1 : W1.drew.cell? ⟨B, 1, none⟩ = some (.slice A2 E.length c2) := m1
  have z3 : W1.drew.cell? ⟨S, 3, none⟩ = some (.string ⟨d.toArray⟩) := y3
  clear hua HL HBW m0 m1 y1 y3 HF1 HS HRD
  generalize W1.drew = W2 at *
  have HRD3 : Hid (Rd W2.drew A1 (N.map sv)) := Lib.hid HRD2.out
  go_upto_region 15 with fail
  go_region_held3 (fun w' => w'.cell? ⟨B, 0, none⟩ = some (.slice A1 N.length c1) ∧ w'.cell? ⟨S, 3, none⟩ = some (.string ⟨d.toArray⟩))
    ((refine ⟨?_, ?_⟩ <;> assumption))
    ((first
      | (go_at_call 72; (with_reducible refine (HF2.out _ HRD3.out).mono ?_); rintro e5 u5 ⟨ja, fb, hja, rfl, hub, rfl⟩)))
  have HUB := Lib.hid hub
  have HL3 := Lib.hid (lsDrew HL2.out)
  have HBW3 := Lib.hid HBW2.out.drew
  have m1 : W2.drew.cell? ⟨B, 1, none⟩ = some (.slice A2 E.length c2) := n1
  clear hub HL2 HBW2 n0 n1 z3 HF2 HRD2 HRD3
  generalize W2.drew = W3 at *
  have hb0 := below_new (Below.refl W3.heap.size W3) (.cells #[.int .i64 (ia : Int), .int .i64 (ja : Int)] 102)
  have HL4 := Lib.hid (HL3.out.below hb0)
  have HB4 := Lib.hid (HBW3.out.below hb0 HL3.out.top)
  have H2 := Lib.hid (World.news_of_block (heap_alloc_new W3 (.cells #[.int .i64 (ia : Int), .int .i64 (ja : Int)] 102)))
  have HREL := Lib.hid (HR.out (ia : Int) (ja : Int) fa fb HUA.out HUB.out)
  clear hb0
  go_wp2_with (at_builtin; refine wpList_append_lies _ rfl _ _ 40 rfl lo 102 i0 _ 2 16 ht hi hz hs1 hby hzs (by decide) (.slice A2 E.length c2) E.length (eV E) rfl HL4.out.edges ⟨W3.heap.size, 0, none⟩ 1 1 [.int .i64 (ia : Int), .int .i64 (ja : Int)] rfl rfl H2.out (by intro u hu; simp at hu; rcases hu with rfl | rfl <;> rfl) (by decide) (by unfold maxLen; omega) (by omega) HL4.out.top _ rfl ?_; intro g7 c7 w7 hown7 hg7 hat7 _; have HL7 := Lib.hid (HL4.out.pushE (e := ((ia : Int), (ja : Int))) hg7 hown7 hat7); have HB7 := Lib.hid ((HB4.out.grown hg7 (own_lo HL4.out.edges) HL4.out.top).set (j := 1) (.slice (some ⟨g7, 0, none⟩) (E.length + 1) c7)); have tb : Blk w7 B 43 [.slice A1 N.length c1, .slice A2 E.length c2, .int .u64 (p : Int), .int .u64 (m : Int)] := (by unfold Blk; rw [hg7.block B HL4.out.box.lt (fun e => by have := own_lo HL4.out.edges B e.symm; have := HL4.out.blo; omega)]; exact HL4.out.box); have t1 := tb.cell (j := 1) rfl; have tf := tb.free 1)
  all_goals (
    go_ret
    refine ⟨_, _, _, _, rfl, ?_, HL7.out, HB7.out⟩
    have hrel := HREL.out
    cases fa <;> first | exact hrel | contradiction)
end
theorem dLine_any {lo B : Nat} {v1 v2 : Value} {N : List (List UInt8)} {E : List EdgeT} {p m : Nat} {W : World} (h : LS lo B v1 v2 (N, E, p, m) W) (s : List UInt8) (hs : s.length ≤ 1048576) (mx : Int) (hmx : W.cell? ⟨1, 0, none⟩ = some (.int .i64 mx)) (hN : N.length ≤ 64) (hE : E.length ≤ 1048576) (hp : B64 p) (hm : B64 m) (hg1 : 1 < lo) (hg2 : 1 ≠ B) :
    Calls Tryz.prog 55 #[.pointer (some ⟨B, 0, none⟩), .string ⟨s.toArray⟩] W (LinePost lo B (N, E, p, m) s W) := by
  by_cases h3 : (splitC 34 s).length = 3
  · obtain ⟨a, b, c, h3'⟩ := len_three h3
    by_cases h64 : N.length = 64
    · exact dLine_full h s hs mx hmx h3' h64
    · exact dLine_node h s hs mx hmx hN hp hm hg1 hg2 h3' h64
  · by_cases h5 : (splitC 34 s).length = 5
    · obtain ⟨a, b, c, d, e, h5'⟩ := len_five h5
      exact dLine_link h s hs mx hmx hE hN h5'
    · exact dLine_other h s hs mx hmx h3 h5
end Go.Proofs.YtoandhhkmkgmaaaGreatDoor
