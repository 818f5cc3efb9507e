/- Contracts for the law CutTells: IsWalk at a walk, good, rows of rows to be read; the numbers that ways use. Rows are good. -/
import Derived.Test.YtonmkmghpiagjaaDoorCut5
import Derived.Test.YtonmkmghpiagjaaDoorCut6
import Derived.Test.YtonmkmghpiagjaaDoorDom1
import Derived.Test.YtonmkmghpiagjaaDoorCf
import Derived.Test.YtonmkmghpiagjaaDoorReach4
namespace Go.Proofs.YtonmkmghpiagjaaDoor
open Go.RowKit

structure WalkOk (l d : List Nat) : Prop where
  pos : 0 < d.length
  lt : ∀ x ∈ d, x < l.length
  ed : ∀ q y x, d[q]? = some y → d[q + 1]? = some x → Ed l y x
theorem rd_natC {w : World} {A : Option Addr} {L : List Nat} {j x : Nat} (h : Rd w A (L.map nv)) (hj : L[j]? = some x) : ∃ b o, A = some ⟨b, o, none⟩ ∧ w.cell? ⟨b, o + j, none⟩ = some (.int .i64 (x : Int)) := by
  have hlt := getElem?_lt hj
  obtain ⟨b, o, hA, hc⟩ := h.at_ (k := j) (by simpa using hlt)
  refine ⟨b, o, hA, ?_⟩
  rw [hc, List.getElem_map]
  rw [List.getElem?_eq_getElem hlt] at hj
  injection hj with hj
  rw [hj]
  rfl
theorem rWalkC_any {A D : Option Addr} {n c m cd : Nat} (l d : List Nat) (w : World) (h1 : Rd w A (l.map uv)) (hd : Rd w D (d.map nv)) (hl : l.length = n) (hm : d.length = m) (hmb : m ≤ 9223372036854775807) (hg : Good l) (hr : WalkOk l d) :
    Calls Tryd.prog 20 #[.slice A n c, .slice D m cd] w fun e w' => e = .returned (.bool true) ∧ w = w' := by
  have hn : n ≤ 64 := by have := hg.1; omega
  have H1 := Lib.hid h1
  have HD := Lib.hid hd
  have HL := Lib.hid hl
  have HM := Lib.hid hm
  have HG := Lib.hid hg
  have HR := Lib.hid hr
  have hpos : 0 < m := by have := hr.pos; omega
  clear h1 hd hl hm hg hr
  go_enter Tryd.func20, Tryd.ntmps20
  go_wp2_with fail
  go_loop [9] (fun i => ∃ j : Nat, i = .int .i64 (j : Int) ∧ j ≤ m) (fun i => m - (intOf i).toNat)
  case atStart => exact ⟨0, rfl, Nat.zero_le _⟩
  case round =>
    obtain ⟨j, rfl, hj⟩ := hrel
    by_cases hlt : j < m
    · obtain ⟨x, hx⟩ : ∃ x, d[j]? = some x := ⟨d[j]'(by rw [HM.out]; exact hlt), List.getElem?_eq_getElem (by rw [HM.out]; exact hlt)⟩
      obtain ⟨bD, oD, rfl, xc⟩ := rd_natC HD.out hx
      have hxn : x < n := by rw [← HL.out]; exact HR.out.lt x (List.mem_of_getElem? hx)
      have hx0 : ¬ ((x : Int) < 0) := by omega
      have hx1 : ¬ ((n : Int) ≤ (x : Int)) := by omega
      have HX := Lib.hid hx
      clear hx
      cases j with
      | zero =>
        rw [Nat.add_zero] at xc
        go_wp2_with fail
        exact ⟨⟨1, rfl, hlt⟩, meas_lt hlt⟩
      | succ q =>
        obtain ⟨y, hy⟩ : ∃ y, d[q]? = some y := ⟨d[q]'(by rw [HM.out]; omega), List.getElem?_eq_getElem (by rw [HM.out]; omega)⟩
        obtain ⟨_, _, he, yc⟩ := rd_natC HD.out hy
        cases he
        have hyn : y < n := by rw [← HL.out]; exact HR.out.lt y (List.mem_of_getElem? hy)
        have HE : Hid ((rowAt l y).testBit x = true) := Lib.hid (HR.out.ed q y x hy HX.out)
        obtain ⟨bR, oR, rfl, rc⟩ := H1.out.set (k := y) (by rw [HL.out]; exact hyn)
        clear hy
        go_wp2_with fail
        refine (in_nat (rowAt l y) (HG.out.b64 y) x w).mono ?_
        rintro e w' ⟨rfl, rfl⟩
        rw [HE.out]
        go_wp2_with fail
        exact ⟨⟨q + 1 + 1, val_succ (q + 1), hlt⟩, meas_lt hlt⟩
    · obtain rfl : j = m := by omega
      have hp : (0 : Int) < (j : Int) := by omega
      go_wp2_with fail
      go_ret
      exact ⟨rfl, rfl⟩
theorem good_anyC {A : Option Addr} {n c : Nat} (xs : List Int) (w : World) (hx : Rd w A (xs.map (.int .i64))) (hn : xs.length = n) (hb : n ≤ 9223372036854775807) :
    Calls Tryd.prog 18 #[.slice A n c] w fun e w' => e = .returned (.bool (!xs.any fun x => x != 0)) ∧ Below w.heap.size w w' := by
  have eg : ∀ args w, (callFunc 70 args).run Tryd.prog w = .ok (.enter 70 args) w := fun args w => enters_of Tryd.func70 (by kernel_rfl) rfl args w
  have hp : ∀ x, x ∈ xs → ∀ W, Below w.heap.size w W → Calls Tryd.prog 70 (#[Value.int .i64 x] ++ #[]) W fun e w' => e = .returned (.bool (x != 0)) ∧ Below W.heap.size W w' := fun x _ W _ => by
    show Calls Tryd.prog 70 #[Value.int .i64 x] W _
    go_enter Tryd.func70, Tryd.ntmps70
    go_wp2_with fail
    go_ret
    exact ⟨rfl, Below.refl _ _⟩
  have H := Lib.hid (cf_Err (c := c) (Value.int .i64) (fun x => x != 0) 70 #[] eg xs w hx hn hb hp)
  clear hx hn hp eg
  generalize hr : xs.any (fun x => x != 0) = r at H ⊢
  clear hr
  go_enter Tryd.func18, Tryd.ntmps18
  go_wp2_with fail
  refine H.out.mono ?_
  rintro e w2 ⟨rfl, hb2⟩
  go_wp2_with fail
  go_ret
  exact ⟨rfl, hb2⟩
/-- Rows of numbers, to be read. -/
def RdRowsC (w : World) (A : Option Addr) (cs : List (List Nat)) : Prop :=
  ∀ t ch, cs[t]? = some ch → ∃ b off At ct, A = some ⟨b, off, none⟩ ∧ b < w.heap.size ∧ w.cell? ⟨b, off + t, none⟩ = some (.slice At ch.length ct) ∧ Rd w At (ch.map nv) ∧ ch.length ≤ ct
theorem RdRowsC.below {w w' : World} {A : Option Addr} {cs : List (List Nat)} (h : RdRowsC w A cs) (hb : Below w.heap.size w w') : RdRowsC w' A cs := fun t ch hc => by
  obtain ⟨b, off, At, ct, h1, h2, h3, h4, h5⟩ := h t ch hc
  exact ⟨b, off, At, ct, h1, Nat.lt_of_lt_of_le h2 hb.size, (hb.cell (p := ⟨b, off + t, none⟩) h2).trans h3, h4.below hb, h5⟩
theorem own_cap {w : World} {B : Nat} {e : TypeId} {sz : Nat} {A : Option Addr} {n c : Nat} {xs : List Value} (h : w.ownsRow B e sz (.slice A n c) n xs) : n ≤ c := by
  rcases h.2 with ⟨hv, h0⟩ | ⟨g, cap, cur, hv, _, _, hc, _⟩
  · injection hv with _ h1 h2
    omega
  · injection hv with _ _ h2
    omega
theorem RdRowsC.of_own {w : World} {B B' m c : Nat} {E e : TypeId} {ob : Option Nat} {A : Option Addr} {vs : List Value} {cs : List (List Nat)} (h : w.ownsRow B E 1 (.slice A m c) m vs) (hr : ChRows e w B' ob vs cs) : RdRowsC w A cs := fun t ch hc => by
  obtain ⟨At, ct, h1, h2, _⟩ := hr.2 t ch hc
  have hlt : t < vs.length := (List.getElem?_eq_some_iff.1 h1).1
  have hR := Rd.of_own h
  obtain ⟨b, off, hA, hb, hcell⟩ := hR (by omega)
  exact ⟨b, off, At, ct, hA, hb, hcell t _ h1, Rd.of_own h2, own_cap h2⟩
theorem inRows_twoC {l : List Nat} {k : Nat} (h : k < l.length) : InRows l (2 ^ k) := fun j hj => by
  rw [Nat.testBit_two_pow] at hj
  have : k = j := of_decide_eq_true hj
  omega
/-! ### The numbers that ways use -/
def UseP (l : List Nat) (a b : Nat) (st : Fl) (t i x : Nat) : Prop :=
  (∃ t' k, t' < t ∧ st.fs[t']? = some k ∧ ∃ j, j < mOf l a b st k ∧ itF st k j = x) ∨ ∃ k, st.fs[t]? = some k ∧ ∃ j, j < i ∧ itF st k j = x
def UsedC (l : List Nat) (a b : Nat) (st : Fl) (U t i : Nat) : Prop := B64 U ∧ ∀ x, U.testBit x = true ↔ UseP l a b st t i x
section
variable {l : List Nat} {a b : Nat} {st : Fl}
theorem used_start : UsedC l a b st 0 0 0 := ⟨by unfold B64; decide, fun x => ⟨fun h => by simp at h, fun h => by
  rcases h with ⟨_, _, h, _⟩ | ⟨_, _, _, h, _⟩
  · exact absurd h (Nat.not_lt_zero _)
  · exact absurd h (Nat.not_lt_zero _)⟩⟩
theorem used_next {U t k : Nat} (hk : st.fs[t]? = some k) (h : UsedC l a b st U t (mOf l a b st k)) : UsedC l a b st U (t + 1) 0 := ⟨h.1, fun x => by
  rw [h.2 x]
  constructor
  · rintro (⟨t', k', h1, h2, h3⟩ | ⟨k', h1, h2⟩)
    · exact .inl ⟨t', k', by omega, h2, h3⟩
    · rw [hk] at h1
      injection h1 with h1
      subst h1
      exact .inl ⟨t, k, by omega, hk, h2⟩
  · rintro (⟨t', k', h1, h2, h3⟩ | ⟨_, _, _, h2, _⟩)
    · by_cases e : t' = t
      · subst e
        rw [hk] at h2
        injection h2 with h2
        subst h2
        exact .inr ⟨k, hk, h3⟩
      · exact .inl ⟨t', k', by omega, h2, h3⟩
    · exact absurd h2 (Nat.not_lt_zero _)⟩
theorem used_no (hg : Good l) (hf : FInv l a b st) {U t i k : Nat} (hk : st.fs[t]? = some k) (hi : i < mOf l a b st k) (h : UsedC l a b st U t i) : U.testBit (itF st k i) = false := by
  rw [Bool.eq_false_iff]
  intro hc
  have hgo := mOf_goes hg hf (List.mem_of_getElem? hk)
  rcases (h.2 _).1 hc with ⟨t', k', h1, h2, j, h3, h4⟩ | ⟨k', h1, j, h2, h3⟩
  · have hgo' := mOf_goes hg hf (List.mem_of_getElem? h2)
    have := (live_inj hf (List.mem_of_getElem? h2) (List.mem_of_getElem? hk) j i (hgo'.live j h3) (hgo.live i hi) h4).2
    subst this
    have ht := getElem?_lt hk
    have ht' := getElem?_lt h2
    have e := (List.getElem_inj hf.fsn (h₀ := ht') (h₁ := ht)).1 (by
      rw [List.getElem?_eq_getElem ht'] at h2
      rw [List.getElem?_eq_getElem ht] at hk
      injection h2 with h2
      injection hk with hk
      rw [h2, hk])
    omega
  · rw [hk] at h1
    injection h1 with h1
    subst h1
    have := (live_inj hf (List.mem_of_getElem? hk) (List.mem_of_getElem? hk) j i (hgo.live j (by omega)) (hgo.live i hi) h3).1
    omega
theorem used_add (hg : Good l) (hf : FInv l a b st) {U t i k : Nat} (hk : st.fs[t]? = some k) (hi : i < mOf l a b st k) (h : UsedC l a b st U t i) : UsedC l a b st (addN U (itF st k i)) t (i + 1) := by
  have hgo := mOf_goes hg hf (List.mem_of_getElem? hk)
  have hlt : itF st k i < 64 := Nat.lt_of_lt_of_le (hgo.lt hg hf (by omega)) hg.1
  refine ⟨addN_b64 h.1 hlt, fun x => ?_⟩
  unfold addN
  rw [or_bit]
  constructor
  · intro hx
    simp at hx
    rcases hx with hx | hx
    · rcases (h.2 x).1 hx with h1 | ⟨k', h1, j, h2, h3⟩
      · exact .inl h1
      · exact .inr ⟨k', h1, j, by omega, h3⟩
    · exact .inr ⟨k, hk, i, by omega, hx⟩
  · rintro (h1 | ⟨k', h1, j, h2, h3⟩)
    · have := (h.2 x).2 (.inl h1)
      simp [this]
    · by_cases e : j = i
      · subst e
        rw [hk] at h1
        injection h1 with h1
        subst h1
        rw [h3]
        simp
      · have := (h.2 x).2 (.inr ⟨k', h1, j, by omega, h3⟩)
        simp [this]
theorem walkOk_way (hg : Good l) (hf : FInv l a b st) (ha : a < l.length) {k m : Nat} (h : Goes l a b st k m) : WalkOk l (wayC a st k m) := by
  refine ⟨by rw [wayC_len]; omega, fun x hx => ?_, fun q y x hy hx => h.ed hf hy hx⟩
  obtain ⟨i, hi⟩ := List.mem_iff_getElem?.1 hx
  cases i with
  | zero =>
    have : some a = some x := hi
    injection this with this
    rw [← this]; exact ha
  | succ i =>
    have hl := getElem?_lt hi
    rw [wayC_len] at hl
    rw [wayC_at (by omega)] at hi
    injection hi with hi
    rw [← hi]
    exact h.lt hg hf (by omega)
/-- The rest of the law: without the cut, b is not come to. -/
theorem cut_done (hg : Good l) (hf : FInv l a b st) {R : Nat × Bool → Prop} (hs : Shut l a b st R) {S : Nat} (hS : ∀ x, S.testBit x = true ↔ CutS R x) (hb64 : B64 S) : (reachD (withoutC l (nums S)) (2 ^ a) (-1)).testBit b = false := by
  have hm : ∀ n, n ∈ nums S ↔ CutS R n := fun n => by
    rw [← hS n]
    exact mem_nums hb64
  rw [Bool.eq_false_iff]
  intro hc
  have h1 := iter_rch (k := 65) (l := withoutC l (nums S)) hc
  have hin : ∀ x ∈ nums S, x < l.length := fun x hx => by
    obtain ⟨_, _, g3⟩ := cut_ok hs ((hm x).1 hx)
    rcases hf.ahv x with g | ⟨y, g, _, _, g4⟩
    · have := g3.2; omega
    · rcases g4 with ⟨_, _, g5⟩ | ⟨_, g5⟩
      · exact hg.2 _ _ g5
      · exact hg.2 _ _ (hf.nx_cases g5).2.2.2.2
  have h2 := withoutC_rch hg (nums S) hin (fun h => (cut_ok hs ((hm a).1 h)).1 rfl) h1
  exact (cut_parts hf hs (rch_mono (fun x hx hcx => hx ((hm x).2 hcx)) h2)).1 rfl
theorem cut_in (hg : Good l) (hf : FInv l a b st) {R : Nat × Bool → Prop} (hs : Shut l a b st R) {S : Nat} (hS : ∀ x, S.testBit x = true ↔ CutS R x) : InRows l S ∧ S.testBit a = false ∧ S.testBit b = false := by
  refine ⟨fun x hx => ?_, ?_, ?_⟩
  · obtain ⟨_, _, g3⟩ := cut_ok hs ((hS x).1 hx)
    rcases hf.ahv x with g | ⟨y, g, _, _, g4⟩
    · have := g3.2; omega
    · rcases g4 with ⟨_, _, g5⟩ | ⟨_, g5⟩
      · exact hg.2 _ _ g5
      · exact hg.2 _ _ (hf.nx_cases g5).2.2.2.2
  · rw [Bool.eq_false_iff]
    exact fun h => (cut_ok hs ((hS a).1 h)).1 rfl
  · rw [Bool.eq_false_iff]
    exact fun h => (cut_ok hs ((hS b).1 h)).2.1 rfl
end
end Go.Proofs.YtonmkmghpiagjaaDoor
