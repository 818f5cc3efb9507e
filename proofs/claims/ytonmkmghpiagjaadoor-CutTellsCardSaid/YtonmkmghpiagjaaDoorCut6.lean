/- Contract: cut.Cut. The table of math/bits lies. -/
import Derived.Test.YtonmkmghpiagjaaDoorCut4
import Derived.Maps.RangeRun
namespace Go.Proofs.YtonmkmghpiagjaaDoor
open Go.RowKit Go.ChangeMaps

theorem entM_born {M : List (Spt × Spt)} {x : MapEntry} (h : x ∈ (entM M).toList) : x.born < M.length := by
  obtain ⟨j, s, t, h1, rfl⟩ := entM_mem h
  exact getElem?_lt h1
theorem entM_nodup (M : List (Spt × Spt)) : ((entM M).toList.map (·.born)).Nodup := by
  have e : (entM M).toList.map (·.born) = List.range M.length := by
    apply List.ext_getElem?
    intro i
    unfold entM
    rw [List.getElem?_map, List.getElem?_map, List.getElem?_zipIdx]
    by_cases h : i < M.length
    · rw [List.getElem?_range h, List.getElem?_eq_getElem h]
      simp
    · rw [List.getElem?_eq_none (by omega), List.getElem?_eq_none (by simp; omega)]
      rfl
  rw [e]
  exact List.nodup_range
/-- What can be come to is among what is shut. -/
theorem keys_shut {l : List Nat} {a b : Nat} {st : Fl} {M : List (Spt × Spt)} {q : Nat} {R : Nat × Bool → Prop} (hi : SInv l a b st M q) (hs : Shut l a b st R) : ∀ s ∈ keysM M, R s := by
  have key : ∀ (i : Nat) (s t : Spt), M[i]? = some (s, t) → R s := by
    intro i
    induction i using Nat.strongRecOn with
    | ind i ih =>
      intro s t h
      cases i with
      | zero =>
        rw [hi.hd] at h
        injection h with h
        injection h with h _
        rw [← h]
        exact hs.go
      | succ i =>
        obtain ⟨j, b', h1, h2, h3⟩ := hi.tr i s t h
        exact hs.cl _ _ (ih j (by omega) _ _ h2) h3
  intro s h
  obtain ⟨i, t, h1⟩ := key_at h
  exact key i s t h1
/-- What the loop has put into the set. -/
def SeenC (M : List (Spt × Spt)) (seen : Array Nat) (S : Nat) : Prop :=
  B64 S ∧ ∀ x, S.testBit x = true ↔ ∃ j t, seen.contains j = true ∧ M[j]? = some ((x, false), t) ∧ (x, true) ∉ keysM M
theorem seenC_start (M : List (Spt × Spt)) : SeenC M #[] 0 := ⟨by unfold B64; decide, fun x => by simp⟩
theorem seenC_skip {M : List (Spt × Spt)} {seen : Array Nat} {S j : Nat} {s t : Spt} (h : SeenC M seen S) (hj : M[j]? = some (s, t)) (hno : s.2 = true ∨ (s.1, true) ∈ keysM M) : SeenC M (seen.push j) S := by
  refine ⟨h.1, fun x => ⟨fun hx => ?_, fun hx => ?_⟩⟩
  · obtain ⟨i, t', h1, h2, h3⟩ := (h.2 x).1 hx
    exact ⟨i, t', by rw [contains_push, h1]; rfl, h2, h3⟩
  · obtain ⟨i, t', h1, h2, h3⟩ := hx
    rw [contains_push] at h1
    by_cases hij : i = j
    · subst hij
      rw [hj] at h2
      injection h2 with h2
      injection h2 with h2 _
      subst h2
      rcases hno with h4 | h4
      · cases h4
      · exact absurd h4 h3
    · exact (h.2 x).2 ⟨i, t', by simpa [hij] using h1, h2, h3⟩
theorem seenC_add {M : List (Spt × Spt)} {seen : Array Nat} {S j n : Nat} {t : Spt} (h : SeenC M seen S) (hj : M[j]? = some ((n, false), t)) (hn : n < 64) (hno : (n, true) ∉ keysM M) : SeenC M (seen.push j) (addN S n) := by
  refine ⟨addN_b64 h.1 hn, fun x => ?_⟩
  unfold addN
  rw [or_bit]
  constructor
  · intro hx
    simp at hx
    rcases hx with hx | hx
    · obtain ⟨i, t', h1, h2, h3⟩ := (h.2 x).1 hx
      exact ⟨i, t', by rw [contains_push, h1]; rfl, h2, h3⟩
    · subst hx
      exact ⟨j, t, by rw [contains_push]; simp, hj, hno⟩
  · rintro ⟨i, t', h1, h2, h3⟩
    rw [contains_push] at h1
    by_cases hij : i = j
    · subst hij
      rw [hj] at h2
      injection h2 with h2
      injection h2 with h2 _
      injection h2 with h2 _
      subst h2
      simp
    · have := (h.2 x).2 ⟨i, t', by simpa [hij] using h1, h2, h3⟩
      simp [this]
theorem seenC_end {M : List (Spt × Spt)} {seen : Array Nat} {S : Nat} (h : SeenC M seen S) (h0 : (leftOf (entM M) seen).size = 0) (x : Nat) : S.testBit x = true ↔ CutS (fun s => s ∈ keysM M) x := by
  rw [h.2 x]
  constructor
  · rintro ⟨j, t, _, h2, h3⟩
    exact ⟨keysM_at h2, h3⟩
  · rintro ⟨h1, h2⟩
    obtain ⟨j, t, h3⟩ := key_at h1
    refine ⟨j, t, ?_, h3, h2⟩
    cases hc : seen.contains j with
    | true => rfl
    | false =>
      have hm : (⟨sv (x, false), sv t, j⟩ : MapEntry) ∈ leftOf (entM M) seen := by
        unfold leftOf
        rw [Array.mem_filter]
        refine ⟨Array.mem_toList_iff.1 (List.mem_of_getElem? (entM_get h3)), ?_⟩
        simp only [hc]
        rfl
      have := Array.eq_empty_of_size_eq_zero h0
      rw [this] at hm
      simp at hm
/-- A place of the map that is still to come. -/
theorem left_at {M : List (Spt × Spt)} {seen : Array Nat} {e : MapEntry} (h : e ∈ (leftOf (entM M) seen).toList) : ∃ s t, M[e.born]? = some (s, t) ∧ e.key = sv s ∧ e.val = sv t := by
  obtain ⟨j, s, t, h1, rfl⟩ := entM_mem (mem_left h).1
  exact ⟨s, t, h1, rfl, rfl⟩
theorem cut_bad {A : Option Addr} {n c : Nat} (l : List Nat) (a b : Int) (w : World) (h1 : Rd w A (l.map uv)) (hl : l.length = n) (hnb : n ≤ 9223372036854775807) (hb : Rows64 l) (he : cutErr l a b ≠ 0) :
    Calls Tryd.prog 16 #[.slice A n c, .int .i64 a, .int .i64 b] w fun e w' => e = .returned (.tuple #[.int .u64 0, .int .i64 (cutErr l a b)]) ∧ w = w' := by
  have H := Lib.hid (cCheck_any (c := c) l a b w h1 hl hnb hb)
  have he' : (cutErr l a b != 0) = true := by simp [he]
  clear h1 hl hb he
  go_enter Tryd.func16, Tryd.ntmps16
  go_wp2_with fail
  refine H.out.mono ?_
  rintro e w1 ⟨rfl, rfl⟩
  go_wp2_with fail
  go_ret2
  exact ⟨rfl, rfl⟩
def seenAt (r : Nat) (M : List (Spt × Spt)) (w : World) : Nat := (leftOf (entM M) (w.iterSeen r)).size
theorem iterSeen_at {w : World} {r : Nat} {a : Option Nat} {b c : Nat} {s : Array Nat} (h : w.heap[r]? = some (.mapIter a b s c)) : w.iterSeen r = s := by unfold World.iterSeen; rw [h]
def CutEnd (l : List Nat) (a b : Nat) (w : World) (e : Ending) (w' : World) : Prop :=
  ∃ (st : Fl) (R : Nat × Bool → Prop) (S : Nat), FInv l a b st ∧ Shut l a b st R ∧ e = .returned (.tuple #[.int .u64 (S : Int), .int .i64 0]) ∧ B64 S ∧ (∀ x, S.testBit x = true ↔ CutS R x) ∧ Below w.heap.size w w'
theorem below_setBlock {B : Nat} {w w' : World} (h : Below B w w') {r : Nat} (hr : B ≤ r) (o : Obj) : Below B w (setBlock w' r o) := by
  refine ⟨h.os, h.tape, h.output, by rw [setBlock_size]; exact h.size, fun k hk => ?_⟩
  rw [setBlock_other _ _ (by omega)]
  exact h.block k hk
set_option maxHeartbeats 1000000 in
set_option maxRecDepth 4000 in
theorem cut_good {A : Option Addr} {n c a b : Nat} (l : List Nat) (w : World) (h1 : Rd w A (l.map uv)) (hl : l.length = n) (hnb : n ≤ 9223372036854775807) (hb : Rows64 l) (hT : Tab w) (hg : Good l)
    (he : cutErr l (a : Int) (b : Int) = 0) (ha : a < n) (hbn : b < n) (hab : a ≠ b) (hed : ¬ Ed l a b) :
    Calls Tryd.prog 16 #[.slice A n c, .int .i64 (a : Int), .int .i64 (b : Int)] w (CutEnd l a b w) := by
  have hn : n ≤ 64 := by have := hg.1; omega
  have H := Lib.hid (cCheck_any (c := c) l (a : Int) (b : Int) w h1 hl hnb hb)
  have HN := Lib.hid (newFlow_any (c := c) l w h1 hl hg hT ha hbn hab hed)
  have H1 := Lib.hid h1
  have HT := Lib.hid hT
  have HL := Lib.hid hl
  have HG := Lib.hid hg
  have HE := Lib.hid he
  clear h1 hl hb hT hg he hab hed
  go_enter Tryd.func16, Tryd.ntmps16
  go_wp2_with fail
  refine H.out.mono ?_
  rintro e w1 ⟨rfl, rfl⟩
  rw [HE.out]
  go_wp2_with fail
  refine HN.out.mono ?_
  rintro e w2 ⟨BF, bN, bA, F, cF, st, R, rfl, hfi, hsh, hfl, hb2⟩
  have HFI := Lib.hid hfi
  have HSH := Lib.hid hsh
  have HFL := Lib.hid hfl
  have HB2 := Lib.hid hb2
  clear hfi hsh hfl hb2 H HN
  go_wp2_with fail
  refine (search_any l w2 (H1.out.below HB2.out) HL.out HG.out (HT.out.below HB2.out) HFL.out HFI.out ha).mono ?_
  rintro e w3 ⟨bm, M, rfl, hsp, hmb, hbm, hb3⟩
  obtain ⟨q, hsi⟩ := hsp.inv
  have hshm : Shut l a b st (fun s => s ∈ keysM M) := hsp.res.elim (fun h => absurd (keys_shut hsi HSH.out _ h) HSH.out.nb) id
  have HSM := Lib.hid hshm
  have HK : Hid (∀ s ∈ keysM M, s.1 < 64) := Lib.hid (fun s hs => by have := hsi.lt s hs; have := HL.out; omega)
  have HMB := Lib.hid hmb
  have HB3 := Lib.hid (below_then HB2.out hb3)
  have hbm1 : bm < w3.heap.size := (Array.getElem?_eq_some_iff.1 hmb).1
  have hrg := run_range_map (P := Tryd.prog) w3 101 104 104 bm (entM M) M.length (by kernel_rfl) hmb
  have HIT : Hid ((w3.alloc (.mapIter (some bm) M.length #[] M.length)).heap[w3.heap.size]? = some (.mapIter (some bm) M.length #[] M.length)) := Lib.hid (heap_alloc_new _ _)
  have HBW : Hid (Below w3.heap.size w3 (w3.alloc (.mapIter (some bm) M.length #[] M.length))) := Lib.hid (below_new (Below.refl _ _) _)
  clear hsp hsi hshm hmb hb3
  go_wp2_with fail
  clear hrg
  go_loopw [10, 11, 12, 13] (fun v _ _ _ wr => ∃ (S : Nat) (seen : Array Nat), v = .int .u64 (S : Int) ∧ Hid (SeenC M seen S) ∧ Hid (wr.heap[w3.heap.size]? = some (.mapIter (some bm) M.length seen M.length)) ∧ Hid (Below w3.heap.size w3 wr)) (fun _ _ _ _ wr => seenAt w3.heap.size M wr)
  case atStart => exact ⟨0, #[], rfl, Lib.hid (seenC_start M), HIT, HBW⟩
  case round =>
    clear HIT HBW
    obtain ⟨S, seen, rfl, HS, HIT, HBW⟩ := hrel
    have hmw : wr.heap[bm]? = some (.map (entM M) M.length) := (HBW.out.block bm hbm1).trans HMB.out
    rcases run_next_at (P := Tryd.prog) wr 0 w3.heap.size bm M.length M.length seen (entM M) M.length HIT.out hmw (fun x hx => entM_born hx) (Nat.le_refl _) with ⟨h0, hnx⟩ | ⟨e, he, w4, hw4, hnx⟩
    · have HZ : Hid (∀ x, S.testBit x = true ↔ CutS (fun s => s ∈ keysM M) x) := Lib.hid (seenC_end HS.out h0)
      clear h0 hmw
      go_wp2_with fail
      go_ret2
      exact ⟨st, _, S, HFI.out, HSM.out, rfl, HS.out.1, HZ.out, below_then HB3.out HBW.out⟩
    · obtain ⟨⟨s1, s2⟩, t, hat, hk, hv⟩ := left_at he
      have HAT := Lib.hid hat
      have HLS := Lib.hid (left_shrinks (entM M) seen e he)
      have HMW : Hid (MapB (setBlock w4 w3.heap.size (.mapIter (some bm) M.length (seen.push e.born) M.length)) bm M) := Lib.hid (by
        have h4 : w4.heap[bm]? = wr.heap[bm]? := by rcases hw4 with rfl | rfl <;> rfl
        unfold MapB
        rw [setBlock_other _ _ (Nat.ne_of_lt hbm1), h4]
        exact hmw)
      have HIT5 : Hid ((setBlock w4 w3.heap.size (.mapIter (some bm) M.length (seen.push e.born) M.length)).heap[w3.heap.size]? = some (.mapIter (some bm) M.length (seen.push e.born) M.length)) := Lib.hid (setBlock_same _ _ _ (by
        have h1 := (Array.getElem?_eq_some_iff.1 HIT.out).1
        rcases hw4 with rfl | rfl <;> exact h1))
      have HB5 : Hid (Below w3.heap.size w3 (setBlock w4 w3.heap.size (.mapIter (some bm) M.length (seen.push e.born) M.length))) := Lib.hid (by
        refine below_setBlock ?_ (Nat.le_refl _) _
        rcases hw4 with rfl | rfl
        · exact HBW.out
        · exact HBW.out.drew)
      have hen := run_entry_at (P := Tryd.prog) _ w3.heap.size bm M.length seen (entM M) M.length e HIT5.out HMW.out (mem_left he).1 (entM_nodup M)
      rw [hk, hv] at hen hnx
      simp only [sv] at hen hnx
      clear hmw hw4 he hk hv
      generalize setBlock w4 w3.heap.size (.mapIter (some bm) M.length (seen.push e.born) M.length) = w5 at hnx hen HMW HIT5 HB5
      have hs64 : s1 < 64 := HK.out (s1, s2) (keysM_at HAT.out)
      have HMB6 : Hid (MapB (w5.alloc (.cells #[.int .i64 (s1 : Int), .bool s2] 104)) bm M) := Lib.hid (HMW.out.same (Below.heap_alloc _ _ _ ((Array.getElem?_eq_some_iff.1 HMW.out).1)))
      have HB6 : Hid (∀ o1 o2, Below w3.heap.size w3 ((w5.alloc o1).alloc o2)) := Lib.hid (fun o1 o2 => (HB5.out.alloc HB5.out.size o1).alloc (by have := HB5.out.size; simp; omega) o2)
      have HIT6 : Hid (∀ o1 o2, ((w5.alloc o1).alloc o2).heap[w3.heap.size]? = some (.mapIter (some bm) M.length (seen.push e.born) M.length)) := Lib.hid (fun o1 o2 => by
        have h5 := (Array.getElem?_eq_some_iff.1 HIT5.out).1
        rw [Below.heap_alloc _ _ _ (by simp; omega), Below.heap_alloc _ _ _ h5]
        exact HIT5.out)
      have HME : Hid (∀ o1 o2, seenAt w3.heap.size M ((w5.alloc o1).alloc o2) < seenAt w3.heap.size M wr) := Lib.hid (fun o1 o2 => by
        unfold seenAt
        rw [iterSeen_at (HIT6.out o1 o2), iterSeen_at HIT.out]
        exact HLS.out)
      clear HLS
      rcases run_look HMB6.out HK.out (s1, true) hs64 true with ⟨hno, hlk⟩ | ⟨j, t2, hj, hlk⟩
      · have HNO := Lib.hid hno
        simp only [sv, if_true] at hlk
        clear hno
        cases s2 with
        | true =>
          have HSK := Lib.hid (seenC_skip HS.out HAT.out (.inl rfl))
          go_wp2_with fail
          exact ⟨⟨S, seen.push e.born, rfl, HSK, Lib.hid (HIT6.out _ _), Lib.hid (HB6.out _ _)⟩, HME.out _ _⟩
        | false =>
          have HAD := Lib.hid (seenC_add HS.out HAT.out hs64 HNO.out)
          have hor := or_raw S s1 HS.out.1 hs64
          have hor2 : bits .or .u64 (S : Int) ((2 : Int) ^ s1) = (addN S s1 : Nat) := by rw [shl_raw s1 hs64] at hor; simpa using hor
          have hsh := shl_raw s1 hs64
          go_wp2_with fail
          exact ⟨⟨addN S s1, seen.push e.born, rfl, HAD, Lib.hid (HIT6.out _ _), Lib.hid (HB6.out _ _)⟩, HME.out _ _⟩
      · have HJ := Lib.hid hj
        simp only [sv, if_true] at hlk
        clear hj
        have HSK := Lib.hid (seenC_skip HS.out HAT.out (.inr (keysM_at HJ.out)))
        cases s2 with
        | true =>
          go_wp2_with fail
          exact ⟨⟨S, seen.push e.born, rfl, HSK, Lib.hid (HIT6.out _ _), Lib.hid (HB6.out _ _)⟩, HME.out _ _⟩
        | false =>
          go_wp2_with fail
          exact ⟨⟨S, seen.push e.born, rfl, HSK, Lib.hid (HIT6.out _ _), Lib.hid (HB6.out _ _)⟩, HME.out _ _⟩
end Go.Proofs.YtonmkmghpiagjaaDoor
