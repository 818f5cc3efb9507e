/- Some of the proof's texts, merged; each one's own words stand ahead of it. -/
import Derived.Test.YtoandhhkmkgmaaaGreatDoorMg46
import Derived.Test.YtoandhhkmkgmaaaGreatDoorEqU64
import Derived.Test.YtoandhhkmkgmaaaGreatDoorMg37
/- Contracts: Back, From, Within, Close, Between of package reach, at good rows and at faults; Turned of the reference; slices.Equal at sets. The table of math/bits lies. -/
namespace Go.Proofs.YtoandhhkmkgmaaaGreatDoor
open Go.RowKit

/-- Columns below i done, and of column i the rows below k. -/
def turnMid (l : List Nat) (i k c : Nat) : Nat := if c < i then colUp l c l.length else if c = i then colUp l c k else 0
theorem turnMid_start (l : List Nat) (c : Nat) : turnMid l 0 0 c = 0 := by unfold turnMid colUp; simp
theorem turnMid_next (l : List Nat) (i c : Nat) : turnMid l i l.length c = turnMid l (i + 1) 0 c := by
  unfold turnMid
  by_cases h1 : c < i
  · have : c < i + 1 := by omega
    simp [h1, this]
  · by_cases h2 : c = i
    · subst h2; simp
    · have h3 : ¬ c < i + 1 := by omega
      have h4 : ¬ (c < i + 1) := h3
      by_cases h5 : c = i + 1
      · subst h5
        simp [h1, h3, colUp]
      · simp [h1, h2, h3, h5]
theorem turnMid_set (l : List Nat) (i k c : Nat) : (if c = i then colUp l i (k + 1) else turnMid l i k c) = turnMid l i (k + 1) c := by
  unfold turnMid
  by_cases h : c = i
  · subst h; simp
  · simp [h]
theorem turnMid_skip (l : List Nat) (i k c : Nat) (h : (rowAt l k).testBit i = false) : turnMid l i k c = turnMid l i (k + 1) c := by
  unfold turnMid
  by_cases h1 : c < i
  · simp [h1]
  · by_cases h2 : c = i
    · subst h2
      rw [colUp, h]
      simp
    · simp [h1, h2]
theorem turnMid_all (l : List Nat) (n : Nat) (hn : l.length = n) : (List.range n).map (turnMid l n 0) = turned l := by
  unfold turned
  rw [hn]
  apply List.map_congr_left
  intro c hc
  have := List.mem_range.1 hc
  unfold turnMid
  rw [if_pos this, hn]
theorem zero_rows' (n : Nat) (l : List Nat) : List.replicate n (Value.int .u64 0) = ((List.range n).map (turnMid l 0 0)).map uv := by
  have := zero_rows n l
  rw [this]
  congr 1
  apply List.map_congr_left
  intro c _
  rw [turnMid_start]
  rfl

theorem rows1 {s : Nat} (hs : B64 s) : Rows64 [s] := rowAt_all (by intro x hx; rw [List.mem_singleton] at hx; rw [hx]; exact hs)
theorem rows2 {s t : Nat} (hs : B64 s) (ht : B64 t) : Rows64 [s, t] := rowAt_all (by
  intro x hx
  rcases List.mem_cons.1 hx with h | h
  · rw [h]; exact hs
  · rw [List.mem_singleton] at h; rw [h]; exact ht)
theorem fault_ne {x : Int} (h : x ≠ 0) : (x != 0) = true := by simp [h]
theorem fault_eq {x : Int} (h : x = 0) : (x != 0) = false := by simp [h]

/-- Within's fault: that of the rows and the set, else a depth below 0. -/
def withinFault (l : List Nat) (s : Nat) (d : Int) : Int := if faultOf l [s] = 0 ∧ d < 0 then 1 else faultOf l [s]
/-- A slice and an error. -/
def SlErrPost (E : TypeId) (n : Nat) (xs : List Value) (err : Int) (w : World) (e : Ending) (w' : World) : Prop :=
  ∃ A c, e = .returned (.tuple #[.slice A n c, .int .i64 err]) ∧ w'.ownsRow w.heap.size E 1 (.slice A n c) n xs ∧ Below w.heap.size w w'
end Go.Proofs.YtoandhhkmkgmaaaGreatDoor
/- Contract: Close of package reach. The rows are below 2^64; the table of math/bits lies. -/
namespace Go.Proofs.YtoandhhkmkgmaaaGreatDoor
open Go.RowKit

/-- Every row closed. -/
def closed (l : List Nat) : List Nat := l.map fun s => reachD l s (-1)
theorem closed_len (l : List Nat) : (closed l).length = l.length := by unfold closed; simp
theorem closed_take (l : List Nat) (k : Nat) (hk : k < l.length) : (closed l).take (k + 1) = (closed l).take k ++ [reachD l (rowAt l k) (-1)] := by
  rw [take_snoc (closed l) 0 k (by rw [closed_len]; exact hk)]
  unfold closed rowAt
  simp [hk]
theorem rowAt_closed (l : List Nat) (k : Nat) (hk : k < l.length) : rowAt (closed l) k = reachD l (rowAt l k) (-1) := by
  unfold closed rowAt
  simp [hk]
end Go.Proofs.YtoandhhkmkgmaaaGreatDoor
/- Contracts: bits.Next in one, order of package knot, Ordered of the reference. Rows are good; the table of math/bits lies. -/
namespace Go.Proofs.YtoandhhkmkgmaaaGreatDoor
open Go.RowKit

/-- How long a slice is. -/
def sliceLen : Value → Nat
  | .slice _ n _ => n
  | _ => 0
/-- What Next answers. -/
def nextN (s : Nat) (n : Int) : Nat := if fromS s n = 0 then 0 else low (fromS s n)
def nextB (s : Nat) (n : Int) : Bool := decide (fromS s n ≠ 0)
theorem nextB_yes {s : Nat} {n : Int} (hs : B64 s) (h : nextB s n = true) : s.testBit (nextN s n) = true ∧ n ≤ (nextN s n : Nat) ∧ nextN s n < 64 ∧ ∀ j : Nat, n ≤ (j : Int) → j < nextN s n → s.testBit j = false := by
  have h0 : fromS s n ≠ 0 := of_decide_eq_true h
  have hb := fromS_b64 (n := n) hs
  have hl := low_bit hb h0
  unfold nextN
  rw [if_neg h0]
  rw [fromS_bit hs] at hl
  simp only [Bool.and_eq_true, decide_eq_true_eq] at hl
  refine ⟨hl.1, hl.2, low_lt hb h0, fun j h1 h2 => ?_⟩
  cases hj : s.testBit j with
  | false => rfl
  | true =>
    have := low_le hb (i := j) (by rw [fromS_bit hs, hj]; simp [h1])
    omega
theorem nextB_no {s : Nat} {n : Int} (hs : B64 s) (h : nextB s n = false) : ∀ j : Nat, n ≤ (j : Int) → s.testBit j = false := by
  have h0 : fromS s n = 0 := by
    apply Classical.byContradiction
    intro h0
    unfold nextB at h
    rw [decide_eq_true h0] at h
    cases h
  intro j hj
  cases hb : s.testBit j with
  | false => rfl
  | true =>
    have := fromS_bit (s := s) (n := n) hs j
    rw [h0, hb] at this
    simp [hj] at this
/-- What a loop over Next has before it. -/
def nxMeas : Value → Value → Nat
  | .int _ q, .bool true => 65 - q.toNat
  | _, _ => 0
theorem nxMeas_lt {s q : Nat} (hs : B64 s) (hq : q < 64) : nxMeas (.int .i64 (nextN s ((q : Int) + 1) : Nat)) (.bool (nextB s ((q : Int) + 1))) < nxMeas (.int .i64 (q : Int)) (.bool true) := by
  cases h : nextB s ((q : Int) + 1) with
  | false => simp [nxMeas]; omega
  | true =>
    have := nextB_yes hs h
    simp only [nxMeas, Int.toNat_natCast]
    omega
theorem nxMeas_lt' {s q x : Nat} {y : Int} (hs : B64 s) (hq : q < 64) (hx : x = nextN s ((q : Int) + 1)) (hy : y = (q : Int)) {b : Bool} (hb : b = nextB s ((q : Int) + 1)) : nxMeas (.int .i64 (x : Int)) (.bool b) < nxMeas (.int .i64 y) (.bool true) := by
  subst hx hy hb
  exact nxMeas_lt hs hq

def OrdPost (l : List Nat) (w : World) (e : Ending) (w' : World) : Prop :=
  ∃ A c, e = .returned (.tuple #[.slice A (ordL l).length c, .int .u64 (ordR l : Nat)]) ∧ w'.ownsRow w.heap.size 3 1 (.slice A (ordL l).length c) (ordL l).length ((ordL l).map nv) ∧ Below w.heap.size w w'
theorem drop_raw (s i : Nat) (hs : B64 s) (hi : i < 64) : bits .andNot .u64 (s : Int) (IntKind.u64.wrap (2 ^ i)) = (drop s i : Nat) := by
  rw [shl_raw i hi]
  exact minus_raw s (2 ^ i) hs (B64.two hi)
/-- What Ordered has, when s is left. -/
def haveO (n s : Nat) : Nat := minus (upTo n) s
theorem haveO_bit {n s : Nat} (hn : n ≤ 64) (hs : B64 s) (j : Nat) : (haveO n s).testBit j = (decide (j < n) && !s.testBit j) := by
  unfold haveO
  rw [minus_bit (upTo_b64 hn) hs, upTo_bit]
theorem haveO_b64 {n s : Nat} (hn : n ≤ 64) : B64 (haveO n s) := minus_b64 (upTo_b64 hn)
theorem haveO_drop {n s i : Nat} (hn : n ≤ 64) (hs : B64 s) (hi : i < n) : addN (haveO n s) i = haveO n (drop s i) := by
  apply set_ext
  intro j
  unfold addN
  rw [or_bit, haveO_bit hn hs, haveO_bit hn (drop_b64 hs), drop_bit hs (by omega)]
  by_cases h : i = j
  · subst h; simp [hi]
  · have h' : j ≠ i := fun e => h e.symm
    simp [h, h']
theorem haveO_zero {n s : Nat} (hn : n ≤ 64) (hs : B64 s) {t : Nat} (ht : B64 t) (hin : ∀ j, t.testBit j = true → j < n) : minus t (haveO n s) = 0 ↔ t &&& s = 0 := by
  constructor
  · intro h
    apply set_ext
    intro j
    have := minus_bit ht (haveO_b64 (s := s) hn) j
    rw [h, haveO_bit hn hs] at this
    rw [Nat.testBit_and]
    cases hj : t.testBit j with
    | false => simp
    | true =>
      rw [hj] at this
      simp [hin j hj] at this
      simp [this]
  · intro h
    apply set_ext
    intro j
    rw [minus_bit ht (haveO_b64 hn), haveO_bit hn hs]
    cases hj : t.testBit j with
    | false => simp
    | true =>
      have h2 : (t &&& s).testBit j = false := by rw [h]; simp
      rw [Nat.testBit_and, hj] at h2
      simp at h2
      simp [hin j hj, h2]
theorem haveO_start (n : Nat) (hn : n ≤ 64) : haveO n (upTo n) = 0 := by
  apply set_ext
  intro j
  rw [haveO_bit hn (upTo_b64 hn), upTo_bit]
  simp
def OrdOwn (l : List Nat) (w : World) (e : Ending) (w' : World) : Prop :=
  ∃ A c, e = .returned (.slice A (ordL l).length c) ∧ w'.ownsRow w.heap.size 3 1 (.slice A (ordL l).length c) (ordL l).length ((ordL l).map nv) ∧ Below w.heap.size w w'
set_option maxHeartbeats 1000000 in
theorem rOrdered_any {A : Option Addr} {n c : Nat} (l : List Nat) (w : World) (h1 : Rd w A (l.map uv)) (hl : l.length = n) (hg : Good l) :
    Calls Tryz.prog 154 #[.slice A n c] w (OrdOwn l w) := by
  have hn : n ≤ 64 := by have := hg.1; omega
  have H1 := Lib.hid h1
  have HL := Lib.hid hl
  have HG := Lib.hid hg
  have HST0 : Hid (0 = haveO n (ordI l 0).2) := Lib.hid (by rw [← hl]; exact (haveO_start _ (by omega)).symm)
  clear h1 hl hg
  go_enter Tryz.func154, Tryz.ntmps154
  go_wp2_with fail
  go_loopw [3, 4, 5, 8, 12] (fun v s _ x _ wr => ∃ (k m : Nat) (A2 : Option Addr) (c2 : Nat), k ≤ n ∧ m ≤ n ∧ x = .int .i64 (k : Int) ∧ s = .int .u64 (haveO n (ordI l k).2 : Nat) ∧ v = .slice A2 m c2 ∧ Hid ((ordI l k).1.length = m) ∧ Hid (wr.ownsRow w.heap.size 3 1 (.slice A2 m c2) m ((ordI l k).1.map nv)) ∧ Hid (Below w.heap.size w wr)) (fun _ _ _ x _ _ => 65 - (intOf x).toNat)
  case atStart => exact ⟨0, 0, none, 0, by omega, by omega, rfl, by rw [← HST0.out]; rfl, rfl, Lib.hid rfl, Lib.hid (World.ownsRow_nil _ _ _ _), Lib.hid (Below.refl _ _)⟩
  case round =>
    obtain ⟨k, m, A2, c2, hk, hm, rfl, rfl, rfl, hlen, hown, hbw⟩ := hrel
    by_cases hkn : k < n
    · have HI := Lib.hid (ordI_inv HG.out k)
      have HSB := Lib.hid (HI.out.b64 HG.out.1)
      have HIN : Hid (∀ j, (ordI l k).2.testBit j = true → j < l.length) := Lib.hid HI.out.sub
      have HSTEP : Hid (∀ i, pickO l (ordI l k).2 = some i → ordI l (k + 1) = ((ordI l k).1 ++ [i], drop (ordI l k).2 i)) := Lib.hid (fun i h => ordStep_some h)
      have HSTOP : Hid (pickO l (ordI l k).2 = none → ordI l (k + 1) = ordI l k) := Lib.hid (fun h => ordStep_none h)
      have HLI : Hid ((ordI l k).1.length + (nums (ordI l k).2).length = l.length) := Lib.hid HI.out.len
      have HR := Lib.hid (H1.out.below hbw.out)
      have hsz := hbw.out.size
      have HETA : Hid (ordI l k = ((ordI l k).1, (ordI l k).2)) := Lib.hid rfl
      generalize hD : (ordI l k).1 = done at *
      generalize hS : (ordI l k).2 = S at *
      clear hD hS HI
      have HHB := Lib.hid (haveO_b64 (n := n) (s := S) hn)
      go_wp2_with fail
      go_loop [3, 4, 5, 12] (fun v s _ y => ∃ i : Nat, i ≤ n ∧ v = .slice A2 m c2 ∧ s = .int .u64 (haveO n S : Nat) ∧ y = .int .i64 (i : Int) ∧ Hid (∀ j : Nat, j < i → S.testBit j = true → rowAt l j &&& S ≠ 0)) (fun _ _ _ y => 65 - (intOf y).toNat)
      case atStart => exact ⟨0, by omega, rfl, rfl, rfl, Lib.hid (fun j hj => absurd hj (by omega))⟩
      case round =>
        obtain ⟨i, hi, rfl, rfl, rfl, hno⟩ := hrel
        by_cases hin : i < n
        · obtain ⟨b2, o2, rfl, x2⟩ := HR.out.set (k := i) (by rw [HL.out]; exact hin)
          have hi64 : i < 64 := by omega
          have HBIT := Lib.hid (haveO_bit hn HSB.out i)
          have HNX : Hid ((S.testBit i = true → rowAt l i &&& S ≠ 0) → ∀ j : Nat, j < i + 1 → S.testBit j = true → rowAt l j &&& S ≠ 0) := Lib.hid (fun h j hj hjs => by
            rcases Nat.lt_or_ge j i with h' | h'
            · exact hno.out j h' hjs
            · obtain rfl : j = i := by omega
              exact h hjs)
          cases hbit : S.testBit i with
          | true =>
            have hhave : (haveO n S).testBit i = false := by rw [HBIT.out, hbit]; simp
            have e1 := minus_raw (rowAt l i) (haveO n S) (HG.out.b64 i) HHB.out
            by_cases hz : rowAt l i &&& S = 0
            · rw [(haveO_zero hn HSB.out (HG.out.b64 i) (fun j hj => by rw [← HL.out]; exact HG.out.2 i j hj)).2 hz] at e1
              have e1' : bits .andNot .u64 ((rowAt l i : Nat) : Int) ((haveO n S : Nat) : Int) = 0 := e1
              have HP := Lib.hid (HSTEP.out i (pickO_first HSB.out hbit hz (fun j hj hjs => hno.out j hj hjs)))
              have e2 := or_raw (haveO n S) i HHB.out hi64
              rw [haveO_drop hn HSB.out hin] at e2
              have hmn : m + 1 ≤ n := by
                have h3 := drop_len HSB.out hbit
                have h4 := HLI.out
                have h5 := hlen.out
                have h6 := HL.out
                omega
              clear e1 hz hbit
              go_wp2_with (first | (go_at_call 58; refine (in_nat _ HHB.out _ _).mono ?_; rintro e w' ⟨rfl, rfl⟩) | (at_builtin; refine wpList_push elInt wr _ _ w.heap.size A2 m c2 _ (nv i) hown.out rfl hsz (by omega) (by omega) rfl rfl rfl rfl ?_; intro A' c' w3 hown3 hb3))
              go_roundw
              case rel => exact ⟨k + 1, m + 1, A', c', by omega, hmn, by go_num, by rw [HP.out], rfl, Lib.hid (by rw [HP.out, List.length_append, hlen.out]; rfl), Lib.hid (by rw [HP.out, List.map_append]; exact hown3), Lib.hid (hbw.out.trans hb3)⟩
              case measure => simp [intOf]; omega
            · have hz2 : ¬ minus (rowAt l i) (haveO n S) = 0 := fun h => hz ((haveO_zero hn HSB.out (HG.out.b64 i) (fun j hj => by rw [← HL.out]; exact HG.out.2 i j hj)).1 h)
              have hz' : (((minus (rowAt l i) (haveO n S) : Nat) : Int) == 0) = false := by simp; omega
              have HN2 := Lib.hid (HNX.out (fun _ => hz))
              clear hz hz2 hbit
              go_wp2_with (go_at_call 58; refine (in_nat _ HHB.out _ _).mono ?_; rintro e w' ⟨rfl, rfl⟩)
              go_round
              case rel => exact ⟨i + 1, by omega, rfl, rfl, by go_num, HN2⟩
              case measure => simp [intOf]; omega
          | false =>
            have hhave : (haveO n S).testBit i = true := by rw [HBIT.out, hbit]; simp [hin]
            have HN2 := Lib.hid (HNX.out (fun h => by rw [hbit] at h; cases h))
            clear hbit
            go_wp2_with (go_at_call 58; refine (in_nat _ HHB.out _ _).mono ?_; rintro e w' ⟨rfl, rfl⟩)
            go_round
            case rel => exact ⟨i + 1, by omega, rfl, rfl, by go_num, HN2⟩
            case measure => simp [intOf]; omega
        · have HP := Lib.hid ((HSTOP.out ((pickO_none HSB.out).2 (fun j hj => hno.out j (by have := HIN.out j hj; rw [HL.out] at this; omega) hj))).trans HETA.out)
          go_wp2
          go_roundw
          case rel => exact ⟨k + 1, m, A2, c2, by omega, hm, by go_num, by rw [HP.out], rfl, Lib.hid (by rw [HP.out]; exact hlen.out), Lib.hid (by rw [HP.out]; exact hown.out), hbw⟩
          case measure => simp [intOf]; omega
    · obtain rfl : k = n := by omega
      have hf : (ordI l k) = (ordL l, ordR l) := by unfold ordL ordR; rw [HL.out]
      have HF := Lib.hid hf
      clear hf
      go_wp2
      go_ret
      have h2 := hlen.out
      have h3 := hown.out
      rw [HF.out] at h2 h3
      subst h2
      exact ⟨A2, c2, rfl, h3, hbw.out⟩
end Go.Proofs.YtoandhhkmkgmaaaGreatDoor
/- Contracts: knot.Order, chain.below: a fault, a knot, or an order. The table of math/bits lies. -/
namespace Go.Proofs.YtoandhhkmkgmaaaGreatDoor
open Go.RowKit

/-- The error of rows that want an order. -/
def ordErr (l : List Nat) : Int := if faultOf l [] = 0 then (if ordR l = 0 then 0 else 8) else faultOf l []
def BelowPost (l : List Nat) (n : Nat) (w : World) (e : Ending) (w' : World) : Prop :=
  ∃ A1 c1 A2 c2, e = .returned (.tuple #[.slice A1 n c1, .slice A2 n c2, .int .i64 0]) ∧ w'.ownsRow w.heap.size 41 1 (.slice A1 n c1) n ((closed l).map uv) ∧
    w'.ownsRow w.heap.size 3 1 (.slice A2 n c2) n ((ordL l).map nv) ∧ Below w.heap.size w w'
end Go.Proofs.YtoandhhkmkgmaaaGreatDoor
