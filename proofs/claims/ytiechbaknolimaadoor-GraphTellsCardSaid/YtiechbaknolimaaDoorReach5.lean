/- Contracts: Back, From, Within, Close, Between of package reach, at good rows and at faults; Turned of the reference; slices.Equal at sets. The table of math/bits lies. -/
import Derived.Test.YtiechbaknolimaaDoorReach4
import Derived.Test.YtiechbaknolimaaDoorEqU64
namespace Go.Proofs.YtiechbaknolimaaDoor
open Go.RowKit

theorem slEq_uv {A1 A2 : Option Addr} {n1 n2 c1 c2 : Nat} (xs ys : List Nat) {w : World} (h1 : Rd w A1 (xs.map uv)) (h2 : Rd w A2 (ys.map uv))
    (e1 : xs.length = n1) (e2 : ys.length = n2) (hx : n1 ≤ 9223372036854775807) (hy : n2 ≤ 9223372036854775807) :
    Calls Tryd.prog 14 #[.slice A1 n1 c1, .slice A2 n2 c2] w fun e w' => e = .returned (.bool (decide (xs = ys))) ∧ Below w.heap.size w w' := by
  have hm : ∀ zs : List Nat, zs.map uv = (zs.map (fun k : Nat => (k : Int))).map (.int .u64) := fun zs => by
    rw [List.map_map]; rfl
  rw [hm] at h1 h2
  refine (slEq_u64_n _ _ h1 h2 (by simpa using e1) (by simpa using e2) hx hy).mono fun e w' ⟨he, hb⟩ => ⟨?_, hb⟩
  rw [he]
  apply ret_bool
  rw [Bool.eq_iff_iff]
  simp only [decide_eq_true_eq]
  constructor
  · intro h
    exact List.map_inj_right (fun a b hab => by omega) |>.1 h
  · intro h; rw [h]

/-- Columns below i done, and of column i the rows below k. -/
def turnMid (l : List Nat) (i k c : Nat) : Nat := if c < i then colUp l c l.length else if c = i then colUp l c k else 0
theorem turnMid_start (l : List Nat) (c : Nat) : turnMid l 0 0 c = 0 := by unfold turnMid colUp; simp
theorem turnMid_next (l : List Nat) (i c : Nat) : turnMid l i l.length c = turnMid l (i + 1) 0 c := by
  unfold turnMid
  by_cases h1 : c < i
  · have : c < i + 1 := by omega
    simp [h1, this]
  · by_cases h2 : c = i
    · subst h2; simp
    · have h3 : ¬ c < i + 1 := by omega
      have h4 : ¬ (c < i + 1) := h3
      by_cases h5 : c = i + 1
      · subst h5
        simp [h1, h3, colUp]
      · simp [h1, h2, h3, h5]
theorem turnMid_set (l : List Nat) (i k c : Nat) : (if c = i then colUp l i (k + 1) else turnMid l i k c) = turnMid l i (k + 1) c := by
  unfold turnMid
  by_cases h : c = i
  · subst h; simp
  · simp [h]
theorem turnMid_skip (l : List Nat) (i k c : Nat) (h : (rowAt l k).testBit i = false) : turnMid l i k c = turnMid l i (k + 1) c := by
  unfold turnMid
  by_cases h1 : c < i
  · simp [h1]
  · by_cases h2 : c = i
    · subst h2
      rw [colUp, h]
      simp
    · simp [h1, h2]
theorem turnMid_all (l : List Nat) (n : Nat) (hn : l.length = n) : (List.range n).map (turnMid l n 0) = turned l := by
  unfold turned
  rw [hn]
  apply List.map_congr_left
  intro c hc
  have := List.mem_range.1 hc
  unfold turnMid
  rw [if_pos this, hn]
theorem zero_rows' (n : Nat) (l : List Nat) : List.replicate n (Value.int .u64 0) = ((List.range n).map (turnMid l 0 0)).map uv := by
  have := zero_rows n l
  rw [this]
  congr 1
  apply List.map_congr_left
  intro c _
  rw [turnMid_start]
  rfl

set_option maxHeartbeats 400000 in
theorem rTurned_any {A : Option Addr} {n c : Nat} (l : List Nat) (w : World) (h1 : Rd w A (l.map uv)) (hl : l.length = n) (hn : n ≤ 64) (hB : Rows64 l) :
    Calls Tryd.prog 16 #[.slice A n c] w (OwnPost 24 n ((turned l).map uv) w) := by
  have HL := Lib.hid hl
  have HB := Lib.hid hB
  have H1 := Lib.hid h1
  clear hl hB h1
  go_enter Tryd.func16, Tryd.ntmps16
  go_wp2_with (at_make; refine wpList_new elU64 rfl w _ w.heap.size n .i64 (by omega) (by omega) (Nat.le_refl _) rfl rfl rfl ?_)
  intro w0 hown0 hb0 hlt0
  rw [zero_rows' n l] at hown0
  have HO0 := Lib.hid hown0
  have HB0 := Lib.hid hb0
  clear hown0 hb0 hlt0
  go_wp2
  go_loopw [4, 5, 11, 16] (fun _ _ i _ wr => ∃ k : Nat, k ≤ n ∧ i = .int .i64 k ∧ Hid (wr.ownsRow w.heap.size 24 1 (.slice (some ⟨w.heap.size, 0, none⟩) n n) n (((List.range n).map (turnMid l k 0)).map uv)) ∧ Hid (Below w.heap.size w wr)) (fun _ _ i _ _ => n - (intOf i).toNat)
  case atStart => exact ⟨0, by omega, rfl, HO0, HB0⟩
  case round =>
    obtain ⟨i, hi, rfl, hown, hb⟩ := hrel
    by_cases hlt : i < n
    · go_wp2
      go_loopw [5, 16] (fun _ j wq => ∃ k : Nat, k ≤ n ∧ j = .int .i64 k ∧ Hid (wq.ownsRow w.heap.size 24 1 (.slice (some ⟨w.heap.size, 0, none⟩) n n) n (((List.range n).map (turnMid l i k)).map uv)) ∧ Hid (Below w.heap.size w wq)) (fun _ j _ => n - (intOf j).toNat)
      case atStart => exact ⟨0, by omega, rfl, hown, hb⟩
      case round =>
        clear hown hb
        obtain ⟨k, hk, rfl, hown, hb⟩ := hrel
        by_cases hkl : k < n
        · obtain ⟨b, o, rfl, e1⟩ := (H1.out.below hb.out).set (k := k) (by rw [HL.out]; exact hkl)
          have HBK := Lib.hid (HB.out k)
          cases hbit : (rowAt l k).testBit i with
          | false =>
            have HSK := Lib.hid (List.map_congr_left (l := List.range n) (fun c _ => turnMid_skip l i k c hbit))
            go_wp2_with (go_at_call 41; refine (in_nat _ HBK.out _ _).mono ?_; rintro e w' ⟨rfl, rfl⟩)
            go_roundw
            case rel => exact ⟨k + 1, by omega, by go_num, Lib.hid (by rw [← HSK.out]; exact hown.out), hb⟩
            case measure => simp [intOf]; omega
          | true =>
            have hcq : wr.cell? ⟨w.heap.size, i, none⟩ = some (.int .u64 (colUp l i k : Nat)) := by
              rw [hown.out.cellAt i (by omega)]
              simp [hlt, uv, turnMid]
            have hfq := hown.out.frozenAt i
            have her := or_raw (colUp l i k) k (colUp_b64 l i k (by omega)) (by omega)
            have hcs : addN (colUp l i k) k = colUp l i (k + 1) := by rw [colUp, if_pos hbit]
            rw [hcs] at her
            have HROW := Lib.hid (hown.out.stored i (.int .u64 ((colUp l i (k + 1) : Nat) : Int))).1
            have HBS := Lib.hid (hb.out.setCell (p := ⟨w.heap.size, i, none⟩) (Nat.le_refl _) (.int .u64 ((colUp l i (k + 1) : Nat) : Int)))
            clear hown hb hcs
            go_wp2_with (go_at_call 41; refine (in_nat _ HBK.out _ _).mono ?_; rintro e w' ⟨rfl, rfl⟩)
            go_region
            go_wp2
            go_roundw
            case rel =>
              refine ⟨k + 1, by omega, by go_num, Lib.hid ?_, Lib.hid HBS.out.drew⟩
              have := HROW.out
              rw [show (Value.int .u64 ((colUp l i (k + 1) : Nat) : Int)) = uv (colUp l i (k + 1)) from rfl, ← List.map_set, map_range_set, List.map_congr_left (fun c _ => turnMid_set l i k c)] at this
              exact this
            case measure => simp [intOf]; omega
        · obtain rfl : k = n := by omega
          have HSK := Lib.hid (List.map_congr_left (l := List.range k) (fun c _ => turnMid_next l i c))
          rw [HL.out] at HSK
          go_wp2
          go_roundw
          case rel => exact ⟨i + 1, by omega, by go_num, Lib.hid (by rw [← HSK.out]; exact hown.out), hb⟩
          case measure => simp [intOf]; omega
    · obtain rfl : i = n := by omega
      have HE := Lib.hid (turnMid_all l i HL.out)
      go_wp2
      go_ret
      exact ⟨_, _, rfl, by rw [← HE.out]; exact hown.out, hb.out⟩

theorem rows1 {s : Nat} (hs : B64 s) : Rows64 [s] := rowAt_all (by intro x hx; rw [List.mem_singleton] at hx; rw [hx]; exact hs)
theorem rows2 {s t : Nat} (hs : B64 s) (ht : B64 t) : Rows64 [s, t] := rowAt_all (by
  intro x hx
  rcases List.mem_cons.1 hx with h | h
  · rw [h]; exact hs
  · rw [List.mem_singleton] at h; rw [h]; exact ht)
theorem fault_ne {x : Int} (h : x ≠ 0) : (x != 0) = true := by simp [h]
theorem fault_eq {x : Int} (h : x = 0) : (x != 0) = false := by simp [h]

theorem pFrom_bad {A : Option Addr} {n c : Nat} (l : List Nat) (s : Nat) (w : World) (h1 : Rd w A (l.map uv)) (hl : l.length = n) (hnb : n ≤ 9223372036854775807) (hb : Rows64 l) (hs : B64 s) (hf : faultOf l [s] ≠ 0) :
    Calls Tryd.prog 50 #[.slice A n c, .int .u64 s] w fun e w' => e = .returned (.tuple #[.int .u64 0, .int .i64 (faultOf l [s])]) ∧ Below w.heap.size w w' := by
  have hz := fault_ne hf
  have H1 := Lib.hid h1
  have HL := Lib.hid hl
  have HB := Lib.hid hb
  have HS := Lib.hid (rows1 hs)
  clear h1 hl hb hs hf
  go_enter Tryd.func50, Tryd.ntmps50
  go_wp2_with fail
  refine (checks_any l [s] _ (H1.out.alloc _) HL.out hnb HB.out (rd_lit _ _ _ _ _ rfl rfl) rfl (by simp) HS.out).mono ?_
  rintro e w' ⟨rfl, rfl⟩
  go_wp2_with fail
  go_ret2
  exact ⟨rfl, below_new (Below.refl _ _) _⟩
theorem pFrom_good {A : Option Addr} {n c : Nat} (l : List Nat) (s : Nat) (w : World) (h1 : Rd w A (l.map uv)) (hl : l.length = n) (hnb : n ≤ 9223372036854775807) (hb : Rows64 l) (hs : B64 s) (hf : faultOf l [s] = 0) (ht : Tab w) :
    Calls Tryd.prog 50 #[.slice A n c, .int .u64 s] w fun e w' => e = .returned (.tuple #[.int .u64 (reachD l s (-1) : Nat), .int .i64 0]) ∧ Below w.heap.size w w' := by
  have hz := fault_eq hf
  have hok := faultOf_ok hb (by intro x hx; rw [List.mem_singleton] at hx; rw [hx]; exact hs) hf
  have HG := Lib.hid hok.1
  have HI := Lib.hid (hok.2 s (List.mem_singleton_self s))
  have H1 := Lib.hid h1
  have HL := Lib.hid hl
  have HB := Lib.hid hb
  have HS := Lib.hid (rows1 hs)
  have HT := Lib.hid ht
  clear h1 hl hb hs hf hok ht
  go_enter Tryd.func50, Tryd.ntmps50
  go_wp2_with fail
  refine (checks_any l [s] _ (H1.out.alloc _) HL.out hnb HB.out (rd_lit _ _ _ _ _ rfl rfl) rfl (by simp) HS.out).mono ?_
  rintro e w' ⟨rfl, rfl⟩
  go_wp2_with fail
  refine (from_any l s (-1) _ (H1.out.alloc _) HL.out HG.out HI.out (HT.out.below (below_new (Below.refl _ _) _)) (by decide) (by decide)).mono ?_
  rintro e w' ⟨rfl, rfl⟩
  go_wp2_with fail
  go_ret2
  exact ⟨rfl, below_new (Below.refl _ _) _⟩

/-- Within's fault: that of the rows and the set, else a depth below 0. -/
def withinFault (l : List Nat) (s : Nat) (d : Int) : Int := if faultOf l [s] = 0 ∧ d < 0 then 1 else faultOf l [s]
/-- A slice and an error. -/
def SlErrPost (E : TypeId) (n : Nat) (xs : List Value) (err : Int) (w : World) (e : Ending) (w' : World) : Prop :=
  ∃ A c, e = .returned (.tuple #[.slice A n c, .int .i64 err]) ∧ w'.ownsRow w.heap.size E 1 (.slice A n c) n xs ∧ Below w.heap.size w w'
end Go.Proofs.YtiechbaknolimaaDoor
/- Contract: Close of package reach. The rows are below 2^64; the table of math/bits lies. -/
namespace Go.Proofs.YtiechbaknolimaaDoor
open Go.RowKit

/-- Every row closed. -/
def closed (l : List Nat) : List Nat := l.map fun s => reachD l s (-1)
theorem closed_len (l : List Nat) : (closed l).length = l.length := by unfold closed; simp
theorem closed_take (l : List Nat) (k : Nat) (hk : k < l.length) : (closed l).take (k + 1) = (closed l).take k ++ [reachD l (rowAt l k) (-1)] := by
  rw [take_snoc (closed l) 0 k (by rw [closed_len]; exact hk)]
  unfold closed rowAt
  simp [hk]
theorem rowAt_closed (l : List Nat) (k : Nat) (hk : k < l.length) : rowAt (closed l) k = reachD l (rowAt l k) (-1) := by
  unfold closed rowAt
  simp [hk]
end Go.Proofs.YtiechbaknolimaaDoor
