/- Contracts: Back, From, Within, Close, Between of package reach, at good rows and at faults; Turned of the reference; slices.Equal at sets. The table of math/bits lies. -/
import Derived.Test.YtonmkmghpiagjaaDoorReach4
import Derived.Test.YtonmkmghpiagjaaDoorEqU64
namespace Go.Proofs.YtonmkmghpiagjaaDoor
open Go.RowKit

theorem slEq_uv {A1 A2 : Option Addr} {n1 n2 c1 c2 : Nat} (xs ys : List Nat) {w : World} (h1 : Rd w A1 (xs.map uv)) (h2 : Rd w A2 (ys.map uv))
    (e1 : xs.length = n1) (e2 : ys.length = n2) (hx : n1 ≤ 9223372036854775807) (hy : n2 ≤ 9223372036854775807) :
    Calls Tryd.prog 59 #[.slice A1 n1 c1, .slice A2 n2 c2] w fun e w' => e = .returned (.bool (decide (xs = ys))) ∧ Below w.heap.size w w' := by
  have hm : ∀ zs : List Nat, zs.map uv = (zs.map (fun k : Nat => (k : Int))).map (.int .u64) := fun zs => by
    rw [List.map_map]; rfl
  rw [hm] at h1 h2
  refine (slEq_u64_n _ _ h1 h2 (by simpa using e1) (by simpa using e2) hx hy).mono fun e w' ⟨he, hb⟩ => ⟨?_, hb⟩
  rw [he]
  apply ret_bool
  rw [Bool.eq_iff_iff]
  simp only [decide_eq_true_eq]
  constructor
  · intro h
    exact List.map_inj_right (fun a b hab => by omega) |>.1 h
  · intro h; rw [h]

/-- Columns below i done, and of column i the rows below k. -/
def turnMid (l : List Nat) (i k c : Nat) : Nat := if c < i then colUp l c l.length else if c = i then colUp l c k else 0
theorem turnMid_start (l : List Nat) (c : Nat) : turnMid l 0 0 c = 0 := by unfold turnMid colUp; simp
theorem turnMid_next (l : List Nat) (i c : Nat) : turnMid l i l.length c = turnMid l (i + 1) 0 c := by
  unfold turnMid
  by_cases h1 : c < i
  · have : c < i + 1 := by omega
    simp [h1, this]
  · by_cases h2 : c = i
    · subst h2; simp
    · have h3 : ¬ c < i + 1 := by omega
      have h4 : ¬ (c < i + 1) := h3
      by_cases h5 : c = i + 1
      · subst h5
        simp [h1, h3, colUp]
      · simp [h1, h2, h3, h5]
theorem turnMid_set (l : List Nat) (i k c : Nat) : (if c = i then colUp l i (k + 1) else turnMid l i k c) = turnMid l i (k + 1) c := by
  unfold turnMid
  by_cases h : c = i
  · subst h; simp
  · simp [h]
theorem turnMid_skip (l : List Nat) (i k c : Nat) (h : (rowAt l k).testBit i = false) : turnMid l i k c = turnMid l i (k + 1) c := by
  unfold turnMid
  by_cases h1 : c < i
  · simp [h1]
  · by_cases h2 : c = i
    · subst h2
      rw [colUp, h]
      simp
    · simp [h1, h2]
theorem turnMid_all (l : List Nat) (n : Nat) (hn : l.length = n) : (List.range n).map (turnMid l n 0) = turned l := by
  unfold turned
  rw [hn]
  apply List.map_congr_left
  intro c hc
  have := List.mem_range.1 hc
  unfold turnMid
  rw [if_pos this, hn]
theorem zero_rows' (n : Nat) (l : List Nat) : List.replicate n (Value.int .u64 0) = ((List.range n).map (turnMid l 0 0)).map uv := by
  have := zero_rows n l
  rw [this]
  congr 1
  apply List.map_congr_left
  intro c _
  rw [turnMid_start]
  rfl

theorem rows1 {s : Nat} (hs : B64 s) : Rows64 [s] := rowAt_all (by intro x hx; rw [List.mem_singleton] at hx; rw [hx]; exact hs)
theorem rows2 {s t : Nat} (hs : B64 s) (ht : B64 t) : Rows64 [s, t] := rowAt_all (by
  intro x hx
  rcases List.mem_cons.1 hx with h | h
  · rw [h]; exact hs
  · rw [List.mem_singleton] at h; rw [h]; exact ht)
theorem fault_ne {x : Int} (h : x ≠ 0) : (x != 0) = true := by simp [h]
theorem fault_eq {x : Int} (h : x = 0) : (x != 0) = false := by simp [h]

theorem pFrom_bad {A : Option Addr} {n c : Nat} (l : List Nat) (s : Nat) (w : World) (h1 : Rd w A (l.map uv)) (hl : l.length = n) (hnb : n ≤ 9223372036854775807) (hb : Rows64 l) (hs : B64 s) (hf : faultOf l [s] ≠ 0) :
    Calls Tryd.prog 116 #[.slice A n c, .int .u64 s] w fun e w' => e = .returned (.tuple #[.int .u64 0, .int .i64 (faultOf l [s])]) ∧ Below w.heap.size w w' := by
  have hz := fault_ne hf
  have H1 := Lib.hid h1
  have HL := Lib.hid hl
  have HB := Lib.hid hb
  have HS := Lib.hid (rows1 hs)
  clear h1 hl hb hs hf
  go_enter Tryd.func116, Tryd.ntmps116
  go_wp2_with fail
  refine (checks_any l [s] _ (H1.out.alloc _) HL.out hnb HB.out (rd_lit _ _ _ _ _ rfl rfl) rfl (by simp) HS.out).mono ?_
  rintro e w' ⟨rfl, rfl⟩
  go_wp2_with fail
  go_ret2
  exact ⟨rfl, below_new (Below.refl _ _) _⟩
theorem pFrom_good {A : Option Addr} {n c : Nat} (l : List Nat) (s : Nat) (w : World) (h1 : Rd w A (l.map uv)) (hl : l.length = n) (hnb : n ≤ 9223372036854775807) (hb : Rows64 l) (hs : B64 s) (hf : faultOf l [s] = 0) (ht : Tab w) :
    Calls Tryd.prog 116 #[.slice A n c, .int .u64 s] w fun e w' => e = .returned (.tuple #[.int .u64 (reachD l s (-1) : Nat), .int .i64 0]) ∧ Below w.heap.size w w' := by
  have hz := fault_eq hf
  have hok := faultOf_ok hb (by intro x hx; rw [List.mem_singleton] at hx; rw [hx]; exact hs) hf
  have HG := Lib.hid hok.1
  have HI := Lib.hid (hok.2 s (List.mem_singleton_self s))
  have H1 := Lib.hid h1
  have HL := Lib.hid hl
  have HB := Lib.hid hb
  have HS := Lib.hid (rows1 hs)
  have HT := Lib.hid ht
  clear h1 hl hb hs hf hok ht
  go_enter Tryd.func116, Tryd.ntmps116
  go_wp2_with fail
  refine (checks_any l [s] _ (H1.out.alloc _) HL.out hnb HB.out (rd_lit _ _ _ _ _ rfl rfl) rfl (by simp) HS.out).mono ?_
  rintro e w' ⟨rfl, rfl⟩
  go_wp2_with fail
  refine (from_any l s (-1) _ (H1.out.alloc _) HL.out HG.out HI.out (HT.out.below (below_new (Below.refl _ _) _)) (by decide) (by decide)).mono ?_
  rintro e w' ⟨rfl, rfl⟩
  go_wp2_with fail
  go_ret2
  exact ⟨rfl, below_new (Below.refl _ _) _⟩

/-- Within's fault: that of the rows and the set, else a depth below 0. -/
def withinFault (l : List Nat) (s : Nat) (d : Int) : Int := if faultOf l [s] = 0 ∧ d < 0 then 1 else faultOf l [s]
theorem pWithin_bad {A : Option Addr} {n c : Nat} (l : List Nat) (s : Nat) (d : Int) (w : World) (h1 : Rd w A (l.map uv)) (hl : l.length = n) (hnb : n ≤ 9223372036854775807) (hb : Rows64 l) (hs : B64 s) (hf : withinFault l s d ≠ 0) :
    Calls Tryd.prog 100 #[.slice A n c, .int .u64 s, .int .i64 d] w fun e w' => e = .returned (.tuple #[.int .u64 0, .int .i64 (withinFault l s d)]) ∧ Below w.heap.size w w' := by
  have H1 := Lib.hid h1
  have HL := Lib.hid hl
  have HB := Lib.hid hb
  have HS := Lib.hid (rows1 hs)
  clear h1 hl hb hs
  by_cases h0 : faultOf l [s] = 0
  · have hd : d < 0 := by
      apply Classical.byContradiction
      intro hd
      apply hf
      unfold withinFault
      rw [if_neg (fun h => hd h.2), h0]
    have HW : Hid (withinFault l s d = 1) := Lib.hid (by unfold withinFault; rw [if_pos ⟨h0, hd⟩])
    have HF := Lib.hid h0
    clear hf h0
    go_enter Tryd.func100, Tryd.ntmps100
    go_wp2_with fail
    refine (checks_any l [s] _ (H1.out.alloc _) HL.out hnb HB.out (rd_lit _ _ _ _ _ rfl rfl) rfl (by simp) HS.out).mono ?_
    rintro e w' ⟨rfl, rfl⟩
    rw [HF.out]
    go_wp2_with fail
    go_ret2
    exact ⟨by rw [HW.out]; rfl, below_new (Below.refl _ _) _⟩
  · have HW : Hid (withinFault l s d = faultOf l [s]) := Lib.hid (by unfold withinFault; rw [if_neg (fun h => h0 h.1)])
    have hz := fault_ne h0
    have hz2 : (faultOf l [s] == 0) = false := by simp [h0]
    clear hf h0
    go_enter Tryd.func100, Tryd.ntmps100
    go_wp2_with fail
    refine (checks_any l [s] _ (H1.out.alloc _) HL.out hnb HB.out (rd_lit _ _ _ _ _ rfl rfl) rfl (by simp) HS.out).mono ?_
    rintro e w' ⟨rfl, rfl⟩
    go_wp2_with fail
    go_ret2
    exact ⟨by rw [HW.out]; rfl, below_new (Below.refl _ _) _⟩
theorem pWithin_good {A : Option Addr} {n c : Nat} (l : List Nat) (s : Nat) (d : Int) (w : World) (h1 : Rd w A (l.map uv)) (hl : l.length = n) (hnb : n ≤ 9223372036854775807) (hb : Rows64 l) (hs : B64 s) (hf : faultOf l [s] = 0) (hd : 0 ≤ d) (hd2 : d ≤ 9223372036854775807) (ht : Tab w) :
    Calls Tryd.prog 100 #[.slice A n c, .int .u64 s, .int .i64 d] w fun e w' => e = .returned (.tuple #[.int .u64 (reachD l s d : Nat), .int .i64 0]) ∧ Below w.heap.size w w' := by
  have hok := faultOf_ok hb (by intro x hx; rw [List.mem_singleton] at hx; rw [hx]; exact hs) hf
  have HG := Lib.hid hok.1
  have HI := Lib.hid (hok.2 s (List.mem_singleton_self s))
  have H1 := Lib.hid h1
  have HL := Lib.hid hl
  have HB := Lib.hid hb
  have HS := Lib.hid (rows1 hs)
  have HT := Lib.hid ht
  have HF := Lib.hid hf
  clear h1 hl hb hs hf hok ht
  go_enter Tryd.func100, Tryd.ntmps100
  go_wp2_with fail
  refine (checks_any l [s] _ (H1.out.alloc _) HL.out hnb HB.out (rd_lit _ _ _ _ _ rfl rfl) rfl (by simp) HS.out).mono ?_
  rintro e w' ⟨rfl, rfl⟩
  rw [HF.out]
  go_wp2_with fail
  refine (from_any l s d _ (H1.out.alloc _) HL.out HG.out HI.out (HT.out.below (below_new (Below.refl _ _) _)) (by omega) (by omega)).mono ?_
  rintro e w' ⟨rfl, rfl⟩
  go_wp2_with fail
  go_ret2
  exact ⟨rfl, below_new (Below.refl _ _) _⟩

/-- A slice and an error. -/
def SlErrPost (E : TypeId) (n : Nat) (xs : List Value) (err : Int) (w : World) (e : Ending) (w' : World) : Prop :=
  ∃ A c, e = .returned (.tuple #[.slice A n c, .int .i64 err]) ∧ w'.ownsRow w.heap.size E 1 (.slice A n c) n xs ∧ Below w.heap.size w w'
theorem pBack_bad {A : Option Addr} {n c : Nat} (l : List Nat) (w : World) (h1 : Rd w A (l.map uv)) (hl : l.length = n) (hnb : n ≤ 9223372036854775807) (hb : Rows64 l) (hf : faultOf l [] ≠ 0) :
    Calls Tryd.prog 99 #[.slice A n c] w fun e w' => e = .returned (.tuple #[.slice none 0 0, .int .i64 (faultOf l [])]) ∧ w = w' := by
  have hz := fault_ne hf
  have H1 := Lib.hid h1
  have HL := Lib.hid hl
  have HB := Lib.hid hb
  clear h1 hl hb hf
  go_enter Tryd.func99, Tryd.ntmps99
  go_wp2_with fail
  refine (pCheck_any l _ H1.out HL.out hnb HB.out).mono ?_
  rintro e w' ⟨rfl, rfl⟩
  go_wp2_with fail
  go_ret2
  exact ⟨rfl, rfl⟩
theorem pBack_good {A : Option Addr} {n c : Nat} (l : List Nat) (w : World) (h1 : Rd w A (l.map uv)) (hl : l.length = n) (hnb : n ≤ 9223372036854775807) (hb : Rows64 l) (hf : faultOf l [] = 0) (ht : Tab w) :
    Calls Tryd.prog 99 #[.slice A n c] w (SlErrPost 23 n ((turned l).map uv) 0 w) := by
  have HF := Lib.hid hf
  have HG := Lib.hid (faultOf_ok hb (by simp) hf).1
  have H1 := Lib.hid h1
  have HL := Lib.hid hl
  have HB := Lib.hid hb
  have HT := Lib.hid ht
  clear h1 hl hb hf ht
  go_enter Tryd.func99, Tryd.ntmps99
  go_wp2_with fail
  refine (pCheck_any l _ H1.out HL.out hnb HB.out).mono ?_
  rintro e w' ⟨rfl, rfl⟩
  rw [HF.out]
  go_wp2_with fail
  refine (back_any l _ H1.out HL.out HG.out HT.out).mono ?_
  rintro e w1 ⟨A1, c1, rfl, hown, hb1⟩
  go_wp2_with fail
  go_ret2
  exact ⟨_, _, rfl, hown, hb1⟩

end Go.Proofs.YtonmkmghpiagjaaDoor
/- Contract: Close of package reach. The rows are below 2^64; the table of math/bits lies. -/
namespace Go.Proofs.YtonmkmghpiagjaaDoor
open Go.RowKit

/-- Every row closed. -/
def closed (l : List Nat) : List Nat := l.map fun s => reachD l s (-1)
theorem closed_len (l : List Nat) : (closed l).length = l.length := by unfold closed; simp
theorem closed_take (l : List Nat) (k : Nat) (hk : k < l.length) : (closed l).take (k + 1) = (closed l).take k ++ [reachD l (rowAt l k) (-1)] := by
  rw [take_snoc (closed l) 0 k (by rw [closed_len]; exact hk)]
  unfold closed rowAt
  simp [hk]
theorem rowAt_closed (l : List Nat) (k : Nat) (hk : k < l.length) : rowAt (closed l) k = reachD l (rowAt l k) (-1) := by
  unfold closed rowAt
  simp [hk]
theorem pClose_bad {A : Option Addr} {n c : Nat} (l : List Nat) (w : World) (h1 : Rd w A (l.map uv)) (hl : l.length = n) (hnb : n ≤ 9223372036854775807) (hb : Rows64 l) (hf : faultOf l [] ≠ 0) :
    Calls Tryd.prog 106 #[.slice A n c] w fun e w' => e = .returned (.tuple #[.slice none 0 0, .int .i64 (faultOf l [])]) ∧ w = w' := by
  have hz := fault_ne hf
  have H1 := Lib.hid h1
  have HL := Lib.hid hl
  have HB := Lib.hid hb
  clear h1 hl hb hf
  go_enter Tryd.func106, Tryd.ntmps106
  go_wp2_with fail
  refine (pCheck_any l _ H1.out HL.out hnb HB.out).mono ?_
  rintro e w' ⟨rfl, rfl⟩
  go_wp2_with fail
  go_ret2
  exact ⟨rfl, rfl⟩
theorem pClose_good {A : Option Addr} {n c : Nat} (l : List Nat) (w : World) (h1 : Rd w A (l.map uv)) (hl : l.length = n) (hnb : n ≤ 9223372036854775807) (hb : Rows64 l) (hf : faultOf l [] = 0) (ht : Tab w) :
    Calls Tryd.prog 106 #[.slice A n c] w (SlErrPost 23 n ((closed l).map uv) 0 w) := by
  have HF := Lib.hid hf
  have HG := Lib.hid (faultOf_ok hb (by simp) hf).1
  have hn : n ≤ 64 := by have := HG.out.1; omega
  have H1 := Lib.hid h1
  have HL := Lib.hid hl
  have HB := Lib.hid hb
  have HT := Lib.hid ht
  clear h1 hl hb hf ht
  go_enter Tryd.func106, Tryd.ntmps106
  go_wp2_with fail
  refine (pCheck_any l _ H1.out HL.out hnb HB.out).mono ?_
  rintro e w' ⟨rfl, rfl⟩
  rw [HF.out]
  go_wp2_with fail
  go_loopw [5, 7, 15] (fun v _ i wr => ∃ k A2 c2, k ≤ n ∧ i = .int .i64 ((k : Nat) : Int) ∧ v = .slice A2 k c2 ∧ Hid (wr.ownsRow w.heap.size 23 1 (.slice A2 k c2) k (((closed l).take k).map uv)) ∧ Hid (Below w.heap.size w wr)) (fun _ _ i _ => n - (intOf i).toNat)
  case atStart => exact ⟨0, none, 0, by omega, rfl, rfl, Lib.hid (World.ownsRow_nil _ _ _ _), Lib.hid (Below.refl _ _)⟩
  case round =>
    obtain ⟨k, A2, c2, hk, rfl, rfl, hown, hbw⟩ := hrel
    by_cases hlt : k < n
    · have HR := Lib.hid (H1.out.below hbw.out)
      have hkl : k < l.length := by rw [HL.out]; exact hlt
      have HC := Lib.hid (closed_take l k hkl)
      have HIN : Hid (InRows l (rowAt l k)) := Lib.hid (fun j hj => HG.out.2 k j hj)
      have hbs := hbw.out.size
      have HTW := Lib.hid (HT.out.below hbw.out)
      obtain ⟨b, o, rfl, e1⟩ := HR.out.set hkl
      clear hkl
      go_wp2_with (first | (go_at_call 134; refine (from_any l _ (-1) _ HR.out HL.out HG.out HIN.out HTW.out (by decide) (by decide)).mono ?_; rintro e w' ⟨rfl, rfl⟩) | (at_builtin; refine wpList_push elU64 wr _ _ w.heap.size A2 k c2 _ _ hown.out rfl hbs (by omega) (by omega) rfl rfl rfl rfl ?_; intro A' c' w1 hown1 hb1))
      go_roundw
      case rel => exact ⟨k + 1, A', c', by omega, by go_num, rfl, Lib.hid (by rw [HC.out, List.map_append]; exact hown1), Lib.hid (hbw.out.trans hb1)⟩
      case measure => simp [intOf]; omega
    · obtain rfl : k = n := by omega
      have HE : Hid ((closed l).take k = closed l) := Lib.hid (List.take_of_length_le (by rw [closed_len, HL.out]; omega))
      go_wp2
      go_ret2
      exact ⟨_, _, rfl, by rw [← HE.out]; exact hown.out, hbw.out⟩
end Go.Proofs.YtonmkmghpiagjaaDoor
