/- Some of the proof's texts, merged; each one's own words stand ahead of it. -/
import Derived.Test.YtoandhhkmkgmaaaGreatDoorMg37
import Derived.Test.YtoandhhkmkgmaaaGreatDoorOwn2
import Derived.RegionTactic
import Derived.ChangeAlike
/- Contracts of package reach: check, Check, checks, step, from; and of the reference: RowsFault, Steps. Rows are below 2^64; the table of math/bits lies. -/
namespace Go.Proofs.YtoandhhkmkgmaaaGreatDoor
open Go.RowKit

/-- A set as a value. -/
def uv (s : Nat) : Value := .int .u64 (s : Int)
theorem elU64 : ElT Tryz.prog 50 41 (.int .u64 0) 8 := ElT.mk' Tryz.underlying50 (by kernel_rfl) rfl
theorem Rd.set {w : World} {A : Option Addr} {l : List Nat} (h : Rd w A (l.map uv)) {k : Nat} (hk : k < l.length) :
    ∃ b off, A = some ⟨b, off, none⟩ ∧ w.cell? ⟨b, off + k, none⟩ = some (.int .u64 (rowAt l k : Nat)) := by
  obtain ⟨b, off, rfl, hc⟩ := h.at_ (k := k) (by simpa using hk)
  refine ⟨b, off, rfl, ?_⟩
  rw [hc]
  unfold rowAt
  simp [uv, hk]
def okErr (b : Bool) : Int := if b then 0 else 4
theorem rowAt_all {l : List Nat} (hb : ∀ s ∈ l, B64 s) : Rows64 l := fun i => by
  rcases Nat.lt_or_ge i l.length with h | h
  · exact hb _ (rowAt_mem h)
  · rw [rowAt_ge h]; exact B64.zero
theorem all_take_snoc {l : List Nat} {p : Nat → Bool} {k : Nat} (hk : k < l.length) : (l.take (k + 1)).all p = ((l.take k).all p && p (rowAt l k)) := by
  rw [take_snoc l 0 k hk, List.all_append]
  simp [rowAt]
theorem all_false {l : List Nat} {p : Nat → Bool} {k : Nat} (hk : k < l.length) (h : p (rowAt l k) = false) : l.all p = false := by
  cases ha : l.all p with
  | false => rfl
  | true => rw [List.all_eq_true.1 ha _ (rowAt_mem hk)] at h; cases h

theorem faultOf_two {l sets : List Nat} (h : faultOf l [] = 2) : faultOf l sets = 2 := by
  unfold faultOf at h ⊢
  split at h
  · rw [if_pos (by assumption)]
  · split at h <;> cases h
theorem faultOf_four {l sets : List Nat} (h : faultOf l [] = 4) : faultOf l sets = 4 := by
  unfold faultOf at h ⊢
  split at h
  · cases h
  · rename_i hn
    rw [if_neg hn]
    split at h
    · cases h
    · rename_i ha
      rw [List.append_nil] at ha
      rw [if_neg]
      rw [List.all_append]
      simp [ha]
theorem faultOf_zero {l sets : List Nat} (h : faultOf l [] = 0) : faultOf l sets = okErr (sets.all (inU l.length)) ∧ l.length ≤ 64 := by
  unfold faultOf at h ⊢
  split at h
  · cases h
  · rename_i hn
    rw [if_neg hn]
    split at h
    · rename_i ha
      rw [List.append_nil] at ha
      rw [List.all_append, ha]
      exact ⟨rfl, by omega⟩
    · cases h
theorem fault_more {l : List Nat} (h : faultOf l [] ≠ 0) (sets : List Nat) : faultOf l sets = faultOf l [] := by
  rcases faultOf_cases l [] with hf | hf | hf
  · exact absurd hf h
  · rw [hf]; exact faultOf_two hf
  · rw [hf]; exact faultOf_four hf
/-- The numbers of s from n on, joined: what step has left to do. -/
theorem fromS_zero {s : Nat} (hs : B64 s) : fromS s 0 = s := by
  apply set_ext
  intro i
  rw [fromS_bit hs]
  simp
theorem fromS_next {s n : Nat} (hs : B64 s) (h0 : fromS s n ≠ 0) : ∀ i, (fromS s ((low (fromS s n) : Nat) + 1 : Int)).testBit i = ((fromS s n).testBit i && decide (i ≠ low (fromS s n))) := by
  intro i
  have hb := fromS_b64 (n := (n : Int)) hs
  have hle := fun j hj => low_le (i := j) hb hj
  rw [fromS_bit hs, fromS_bit hs]
  generalize hk : low (fromS s n) = k at *
  have hlow := low_bit hb h0
  rw [hk, fromS_bit hs] at hlow
  simp at hlow
  cases hsi : s.testBit i with
  | false => simp
  | true =>
    rw [Bool.eq_iff_iff]
    simp
    constructor
    · intro h; omega
    · rintro ⟨h1, h2⟩
      have := hle i (by rw [fromS_bit hs, hsi]; simp; exact h1)
      omega
theorem orRows_ext {l : List Nat} {s t o : Nat} {k : Nat} (h : ∀ i, i < k → s.testBit i = t.testBit i) : orRows l s o k = orRows l t o k := by
  induction k with
  | zero => rfl
  | succ k ih =>
    unfold orRows
    rw [ih (fun i hi => h i (by omega)), h k (by omega)]
/-- Done so far, and what is left. -/
def StepRel (l : List Nat) (s out : Nat) (n : Nat) : Prop := B64 out ∧ ∀ j, (stepS l s).testBit j = true ↔ out.testBit j = true ∨ ∃ i, i < l.length ∧ (fromS s n).testBit i = true ∧ (rowAt l i).testBit j = true
theorem stepRel_start (l : List Nat) {s : Nat} (hs : B64 s) : StepRel l s 0 0 := by
  refine ⟨B64.zero, fun j => ?_⟩
  rw [stepS_bit]
  have := fromS_zero hs
  rw [show ((0 : Nat) : Int) = 0 from rfl, this]
  simp
theorem stepRel_next {l : List Nat} (hl : Rows64 l) {s out n : Nat} (hs : B64 s) (h : StepRel l s out n) (h0 : fromS s n ≠ 0) (hk : low (fromS s n) < l.length) :
    StepRel l s (out ||| rowAt l (low (fromS s n))) (low (fromS s n) + 1) := by
  refine ⟨h.1.or (hl _), fun j => ?_⟩
  have hf := fromS_next hs h0
  have hlow := low_bit (fromS_b64 (n := (n : Int)) hs) h0
  rw [h.2 j, Nat.testBit_or, Bool.or_eq_true]
  have hc : (((low (fromS s n) + 1 : Nat)) : Int) = ((low (fromS s n) : Nat) + 1 : Int) := by omega
  rw [hc]
  constructor
  · rintro (h1 | ⟨i, h1, h2, h3⟩)
    · exact .inl (.inl h1)
    · by_cases hi : i = low (fromS s n)
      · rw [← hi]; exact .inl (.inr h3)
      · exact .inr ⟨i, h1, by rw [hf, h2]; simp [hi], h3⟩
  · rintro ((h1 | h1) | ⟨i, h1, h2, h3⟩)
    · exact .inl h1
    · exact .inr ⟨_, hk, hlow, h1⟩
    · rw [hf, Bool.and_eq_true] at h2
      exact .inr ⟨i, h1, h2.1, h3⟩
theorem stepRel_end {l : List Nat} {s out n : Nat} (h : StepRel l s out n) (h0 : fromS s n = 0) : out = stepS l s := by
  apply set_ext
  intro j
  rw [Bool.eq_iff_iff, h.2 j, h0]
  simp
end Go.Proofs.YtoandhhkmkgmaaaGreatDoor
/- Contracts of package reach: step, from; of the reference: Steps, RowsFault. The rows are good; the table of math/bits lies. -/
namespace Go.Proofs.YtoandhhkmkgmaaaGreatDoor
open Go.RowKit

def stepMeas (n is : Value) : Nat := match is with
  | .bool true => 65 - (intOf n).toNat
  | _ => 0
/-- What step's loop holds: done so far, and the next number. -/
def StepSlots (l : List Nat) (s : Nat) (o n is : Value) : Prop :=
  ∃ out k : Nat, o = .int .u64 (out : Int) ∧ StepRel l s out k ∧ ((fromS s k = 0 ∧ is = .bool false) ∨ (fromS s k ≠ 0 ∧ n = .int .i64 (low (fromS s k) : Nat) ∧ is = .bool true))
end Go.Proofs.YtoandhhkmkgmaaaGreatDoor
/- Contracts of the reference: Steps, RowsFault. Rows are below 2^64. -/
namespace Go.Proofs.YtoandhhkmkgmaaaGreatDoor
open Go.RowKit

/-- RowsFault: the sets are handed over in a slice. -/
theorem rRowsFault_any {A A2 : Option Addr} {n c m c2 : Nat} (l sets : List Nat) (w : World) (h1 : Rd w A (l.map uv)) (hl : l.length = n) (hnb : n ≤ 9223372036854775807) (hb : Rows64 l)
    (h2 : Rd w A2 (sets.map uv)) (hm : sets.length = m) (hmb : m ≤ 64) (hb2 : Rows64 sets) :
    Calls Tryz.prog 20 #[.slice A n c, .slice A2 m c2] w fun e w' => e = .returned (.int .i64 (faultOf l sets)) ∧ Below w.heap.size w w' := by
  by_cases hn : n ≤ 64
  · have HE : Hid (faultOf l sets = okErr ((l ++ sets).all (inU n))) := Lib.hid (by
      unfold faultOf okErr
      rw [if_neg (by omega), hl])
    have hlen : (l ++ sets).length = n + m := by simp [hl, hm]
    have HBB : Hid (Rows64 (l ++ sets)) := Lib.hid (fun i => by
      unfold rowAt
      rcases Nat.lt_or_ge i l.length with h | h
      · rw [List.getElem?_append_left h]; exact hb i
      · rw [List.getElem?_append_right h]; exact hb2 _)
    have HLN := Lib.hid hlen
    have HL := Lib.hid hl
    have HM := Lib.hid hm
    have H1 := Lib.hid h1
    have H2 := Lib.hid h2
    clear hl hm hlen h1 h2 hb hb2
    go_enter Tryz.func20, Tryz.ntmps20
    go_wp2_with (at_builtin; refine wpList_cat elU64 w _ _ w.heap.size none 0 0 [] A n c (l.map uv) (World.ownsRow_nil _ _ _ _) H1.out (by rw [List.length_map]; exact HL.out) ?o1 (Nat.le_refl _) (by omega) (by omega) rfl rfl rfl rfl ?_)
    case o1 => intro u hu; obtain ⟨x, _, rfl⟩ := List.mem_map.1 hu; rfl
    intro A3 c3 w1 hown1 hb1
    have H21 := Lib.hid (H2.out.below hb1)
    go_wp2_with (at_builtin; refine wpList_cat elU64 w1 _ _ w.heap.size A3 _ c3 _ A2 m c2 (sets.map uv) hown1 H21.out (by rw [List.length_map]; exact HM.out) ?o1 hb1.size (by omega) (by omega) rfl rfl rfl rfl ?_)
    case o1 => intro u hu; obtain ⟨x, _, rfl⟩ := List.mem_map.1 hu; rfl
    intro A4 c4 w2 hown2 hb2
    have h4 := Rd.of_own hown2
    rw [← List.map_append] at h4
    have H4 := Lib.hid h4
    have HB := Lib.hid (hb1.trans hb2)
    clear hown1 hown2 h4 hb1 hb2
    generalize l ++ sets = L at *
    go_wp2
    go_loop [6, 7, 16] (fun _ _ i => ∃ k : Nat, k ≤ n + m ∧ i = .int .i64 k ∧ (L.take k).all (inU n) = true) (fun _ _ i => n + m - (intOf i).toNat)
    case atStart => exact ⟨0, by omega, rfl, rfl⟩
    case round =>
      obtain ⟨k, hk, rfl, hok⟩ := hrel
      have HO := Lib.hid hok
      clear hok
      by_cases hlt : k < n + m
      · have hkl : k < L.length := by rw [HLN.out]; exact hlt
        obtain ⟨b, o, rfl, e1⟩ := H4.out.set hkl
        have HX := Lib.hid (HBB.out k)
        have HT := Lib.hid (all_take_snoc (p := inU n) hkl)
        have HF := Lib.hid (all_false (p := inU n) hkl)
        clear hkl
        generalize rowAt L k = x at *
        go_wp2
        go_loop [7] (fun i => ∃ j : Nat, n ≤ j ∧ j ≤ 64 ∧ i = .int .i64 j ∧ Hid (∀ q, n ≤ q → q < j → x.testBit q = false)) (fun i => 64 - (intOf i).toNat)
        case atStart => exact ⟨n, by omega, by omega, rfl, Lib.hid (fun q h1 h2 => absurd h2 (by omega))⟩
        case round =>
          obtain ⟨j, hj1, hj2, rfl, hq⟩ := hrel
          by_cases hjl : j < 64
          · cases hbit : x.testBit j with
            | true =>
              have HI : Hid (inU n x = false) := Lib.hid (by
                cases hi : inU n x with
                | false => rfl
                | true => have := (inU_iff hn HX.out).1 hi j hbit; omega)
              go_wp2_with (go_at_call 58; refine (in_nat _ HX.out _ _).mono ?_; rintro e w' ⟨rfl, rfl⟩)
              go_ret
              exact ⟨ret_int (by rw [HE.out, HF.out HI.out]; rfl), HB.out⟩
            | false =>
              have HQ : Hid (∀ q, n ≤ q → q < j + 1 → x.testBit q = false) := Lib.hid (fun q h1 h2 => by
                rcases Nat.lt_or_ge q j with h | h
                · exact hq.out q h1 h
                · obtain rfl : q = j := by omega
                  exact hbit)
              go_wp2_with (go_at_call 58; refine (in_nat _ HX.out _ _).mono ?_; rintro e w' ⟨rfl, rfl⟩)
              go_round
              case rel => exact ⟨j + 1, by omega, by omega, by go_num, HQ.out⟩
              case measure => simp [intOf]; omega
          · have HI : Hid (inU n x = true) := Lib.hid ((inU_iff hn HX.out).2 (fun q hqb => by
              rcases Nat.lt_or_ge q n with h | h
              · exact h
              · have := HX.out.bit hqb
                rw [hq.out q h (by omega)] at hqb
                cases hqb))
            go_wp2
            go_round
            case rel => exact ⟨k + 1, by omega, by go_num, by rw [HT.out, HO.out, HI.out]; rfl⟩
            case measure => simp [intOf]; omega
      · have HA : Hid (L.all (inU n) = true) := Lib.hid (by
          have := HO.out
          rw [List.take_of_length_le (by rw [HLN.out]; omega)] at this
          exact this)
        go_wp2
        go_ret
        exact ⟨ret_int (by rw [HE.out, HA.out]; rfl), HB.out⟩
  · have HE : Hid (faultOf l sets = 2) := Lib.hid (by unfold faultOf; rw [if_pos (by omega)])
    clear hl hm
    go_enter Tryz.func20, Tryz.ntmps20
    go_wp2
    go_ret
    exact ⟨ret_int HE.out.symm, Below.refl _ _⟩
end Go.Proofs.YtoandhhkmkgmaaaGreatDoor
/- Contracts: back of package reach, Turned of the reference: rows turned, in new memory. Rows are good; the table of math/bits lies. -/
namespace Go.Proofs.YtoandhhkmkgmaaaGreatDoor
open Go.RowKit

theorem map_range_set {α : Type} (n q : Nat) (f : Nat → α) (v : α) : ((List.range n).map f).set q v = (List.range n).map (fun c => if c = q then v else f c) := by
  apply List.ext_getElem?
  intro i
  rw [List.getElem?_set, List.getElem?_map, List.getElem?_map]
  by_cases hi : i < n
  · have h1 : (List.range n)[i]? = some i := by simp [hi]
    rw [h1]
    by_cases hq : q = i
    · subst hq; simp [hi]
    · have : ¬ i = q := fun e => hq e.symm
      simp [hq, this]
  · have h1 : (List.range n)[i]? = none := by simp; omega
    rw [h1]
    by_cases hq : q = i
    · subst hq; simp; omega
    · simp [hq]
/-- Row i half done: which columns have it already. -/
def colMid (l : List Nat) (i : Nat) (done : List Nat) (c : Nat) : Nat := if c ∈ done then addN (colUp l c i) i else colUp l c i
theorem colMid_end {l : List Nat} (hl : Rows64 l) (i c : Nat) : colMid l i (nums (rowAt l i)) c = colUp l c (i + 1) := by
  unfold colMid
  by_cases h : c ∈ nums (rowAt l i)
  · have := (mem_nums (hl i)).1 h
    rw [if_pos h, colUp, if_pos this]
  · have := fun e => h ((mem_nums (hl i)).2 e)
    rw [if_neg h, colUp, if_neg this]
theorem colMid_step {l : List Nat} {i q : Nat} {done : List Nat} (hq : q ∉ done) (c : Nat) : (if c = q then addN (colUp l q i) i else colMid l i done c) = colMid l i (done ++ [q]) c := by
  unfold colMid
  by_cases h : c = q
  · subst h; simp
  · simp [h]
theorem nums_take_not {s j : Nat} (hj : j < (nums s).length) : (nums s)[j]?.getD 0 ∉ (nums s).take j := by
  have hnd := nums_nodup s
  have hs := take_snoc (nums s) 0 j hj
  have h2 : ((nums s).take (j + 1)).Nodup := hnd.sublist (List.take_sublist _ _)
  rw [hs, List.nodup_append] at h2
  intro hm
  exact h2.2.2 _ hm _ (by simp) rfl
theorem zero_rows (n : Nat) (l : List Nat) : List.replicate n (Value.int .u64 0) = ((List.range n).map fun c => colUp l c 0).map uv := by
  apply List.ext_getElem?
  intro i
  rw [List.getElem?_map, List.getElem?_map, List.getElem?_replicate]
  by_cases hi : i < n
  · simp [hi, colUp, uv]
  · simp [hi]

end Go.Proofs.YtoandhhkmkgmaaaGreatDoor
