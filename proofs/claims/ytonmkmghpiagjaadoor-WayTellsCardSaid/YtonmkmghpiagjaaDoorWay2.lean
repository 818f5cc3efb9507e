/- Contracts of package way: Far, Some. Sets are below 2^64; the table of math/bits lies. -/
import Derived.Test.YtonmkmghpiagjaaDoorWay1
namespace Go.Proofs.YtonmkmghpiagjaaDoor
open Go.RowKit

/-- An error of rows and sets, else whether they meet. -/
theorem far_bad {A : Option Addr} {n c : Nat} (l : List Nat) (a b : Nat) (w : World) (h1 : Rd w A (l.map uv)) (hl : l.length = n) (hnb : n ≤ 9223372036854775807) (hb : Rows64 l) (ha : B64 a) (hbb : B64 b) (hT : Tab w) (hf : faultOf l [a, b] ≠ 0) :
    Calls Tryd.prog 11 #[.slice A n c, .int .u64 a, .int .u64 b] w fun e w' => e = .returned (.tuple #[.int .i64 0, .int .i64 (faultOf l [a, b])]) ∧ Below w.heap.size w w' := by
  have H := Lib.hid (rings_bad (c := c) l a b w h1 hl hnb hb ha hbb hT hf)
  clear h1 hl hb ha hbb hT hf
  go_enter Tryd.func11, Tryd.ntmps11
  go_wp2_with fail
  refine H.out.mono ?_
  rintro e w1 ⟨rfl, hb1⟩
  go_wp2_with fail
  go_ret2
  exact ⟨rfl, hb1⟩
def FarPost (l : List Nat) (a b : Nat) (w : World) (e : Ending) (w' : World) : Prop :=
  ((∃ m : Nat, Meet l a b m ∧ e = .returned (.tuple #[.int .i64 (m : Int), .int .i64 0])) ∨ (NoMeet l a b ∧ e = .returned (.tuple #[.int .i64 0, .int .i64 5]))) ∧ Below w.heap.size w w'
theorem far_good {A : Option Addr} {n c : Nat} (l : List Nat) (a b : Nat) (w : World) (h1 : Rd w A (l.map uv)) (hl : l.length = n) (hnb : n ≤ 9223372036854775807) (hb : Rows64 l) (ha : B64 a) (hbb : B64 b) (hT : Tab w) (hf : faultOf l [a, b] = 0) :
    Calls Tryd.prog 11 #[.slice A n c, .int .u64 a, .int .u64 b] w (FarPost l a b w) := by
  have hok := faultOf_ok hb (by
    intro x hx
    rcases List.mem_cons.1 hx with h | h
    · rw [h]; exact ha
    · rw [List.mem_singleton] at h; rw [h]; exact hbb) hf
  have HM := Lib.hid (fun (m : Nat) (h : Meet l a b m) => meet_le hok.1 (hok.2 b (by simp)) h)
  have HN := Lib.hid hok.1.1
  have H := Lib.hid (rings_good (c := c) l a b w h1 hl hnb hb ha hbb hT hf)
  clear h1 hl hb ha hbb hT hf hok
  go_enter Tryd.func11, Tryd.ntmps11
  go_wp2_with fail
  refine H.out.mono ?_
  rintro e w1 h
  rcases h with ⟨m, hm, A1, c1, rfl, hown, hb1⟩ | ⟨hno, rfl, hb1⟩
  · have hmb : m ≤ 64 := Nat.le_trans (HM.out m hm) HN.out
    have HMM := Lib.hid hm
    clear hm hown
    go_wp2_with fail
    go_ret2
    exact ⟨.inl ⟨m, HMM.out, rfl⟩, hb1⟩
  · have HNO := Lib.hid hno
    clear hno
    go_wp2_with fail
    go_ret2
    exact ⟨.inr ⟨HNO.out, rfl⟩, hb1⟩

theorem some_bad {A : Option Addr} {n c : Nat} (l : List Nat) (a b : Nat) (w : World) (h1 : Rd w A (l.map uv)) (hl : l.length = n) (hnb : n ≤ 9223372036854775807) (hb : Rows64 l) (ha : B64 a) (hbb : B64 b) (hT : Tab w) (hf : faultOf l [a, b] ≠ 0) :
    Calls Tryd.prog 10 #[.slice A n c, .int .u64 a, .int .u64 b] w fun e w' => e = .returned (.tuple #[.slice none 0 0, .int .i64 (faultOf l [a, b])]) ∧ Below w.heap.size w w' := by
  have H := Lib.hid (rings_bad (c := c) l a b w h1 hl hnb hb ha hbb hT hf)
  have hz := fault_ne hf
  clear h1 hl hb ha hbb hT hf
  go_enter Tryd.func10, Tryd.ntmps10
  go_wp2_with fail
  refine H.out.mono ?_
  rintro e w1 ⟨rfl, hb1⟩
  go_wp2_with fail
  go_ret2
  exact ⟨rfl, hb1⟩
def SomePost (l : List Nat) (a b : Nat) (w : World) (e : Ending) (w' : World) : Prop :=
  (∃ m : Nat, Meet l a b m ∧ SlErrPost 3 (m + 1) ((wayL l b m a).map nv) 0 w e w') ∨ (NoMeet l a b ∧ e = .returned (.tuple #[.slice none 0 0, .int .i64 5]) ∧ Below w.heap.size w w')
/-- What Some has collected, and what is to come. -/
def SomeRel (l : List Nat) (a b m : Nat) (done : List Nat) (cur i : Nat) : Prop :=
  B64 cur ∧ done.length + i = m + 1 ∧ (i = 0 → done = wayL l b m a) ∧ (∀ j, i = j + 1 → Meet l cur b j ∧ done ++ wayL l b j cur = wayL l b m a) ∧ InRows l cur
theorem someRel_start {l : List Nat} {a b m : Nat} (ha : B64 a) (hi : InRows l a) (h : Meet l a b m) : SomeRel l a b m [] a (m + 1) :=
  ⟨ha, by simp, fun h => by omega, fun j hj => by
    obtain rfl : j = m := by omega
    exact ⟨h, rfl⟩, hi⟩
theorem someRel_next {l : List Nat} (hg : Good l) {a b m : Nat} (hb : InRows l b) {done : List Nat} {cur j : Nat} (h : SomeRel l a b m done cur (j + 1)) :
    SomeRel l a b m (done ++ [low (cur &&& ring l b j)]) (rowAt l (low (cur &&& ring l b j))) j := by
  obtain ⟨h1, h2, _, h4, _⟩ := h
  obtain ⟨hm, hw⟩ := h4 j rfl
  rw [wayL_cons] at hw
  refine ⟨hg.b64 _, by rw [List.length_append, List.length_singleton]; omega, fun hj => ?_, fun i hi => ?_, fun y hy => hg.2 _ y hy⟩
  · subst hj
    exact hw
  · subst hi
    refine ⟨meet_next hg hb h1 hm, ?_⟩
    rw [List.append_assoc]
    exact hw
set_option maxHeartbeats 1000000 in
theorem some_good {A : Option Addr} {n c : Nat} (l : List Nat) (a b : Nat) (w : World) (h1 : Rd w A (l.map uv)) (hl : l.length = n) (hnb : n ≤ 9223372036854775807) (hb : Rows64 l) (ha : B64 a) (hbb : B64 b) (hT : Tab w) (hf : faultOf l [a, b] = 0) :
    Calls Tryd.prog 10 #[.slice A n c, .int .u64 a, .int .u64 b] w (SomePost l a b w) := by
  have hok := faultOf_ok hb (by
    intro x hx
    rcases List.mem_cons.1 hx with h | h
    · rw [h]; exact ha
    · rw [List.mem_singleton] at h; rw [h]; exact hbb) hf
  have HM := Lib.hid (fun (m : Nat) (h : Meet l a b m) => meet_le hok.1 (hok.2 b (by simp)) h)
  have HG := Lib.hid hok.1
  have HIB := Lib.hid (hok.2 b (by simp))
  have HIA := Lib.hid (hok.2 a (by simp))
  have H := Lib.hid (rings_good (c := c) l a b w h1 hl hnb hb ha hbb hT hf)
  have H1 := Lib.hid h1
  have HL := Lib.hid hl
  have HA := Lib.hid ha
  have HT := Lib.hid hT
  clear h1 hl hb ha hbb hT hf hok
  go_enter Tryd.func10, Tryd.ntmps10
  go_wp2_with fail
  refine H.out.mono ?_
  rintro e w1 h
  rcases h with ⟨m, hm, A1, c1, rfl, hown, hb1⟩ | ⟨hno, rfl, hb1⟩
  · have hmb : m ≤ 64 := Nat.le_trans (HM.out m hm) HG.out.1
    have HST := Lib.hid (someRel_start HA.out HIA.out hm)
    have HMM := Lib.hid hm
    have HR := Lib.hid (Rd.of_own hown)
    have HB1 := Lib.hid hb1
    clear hm hown hb1
    go_wp2_with fail
    go_loopw [1, 10, 11, 12, 13] (fun t v i _ _ wr => ∃ (q cur k : Nat) (done : List Nat) (A2 : Option Addr) (c2 : Nat), q ≤ m + 1 ∧ k ≤ m + 1 ∧ i = .int .i64 ((q : Int) - 1) ∧ t = .int .u64 (cur : Int) ∧ v = .slice A2 k c2 ∧ Hid (SomeRel l a b m done cur q) ∧ Hid (wr.ownsRow w1.heap.size 3 1 (.slice A2 k c2) k (done.map nv)) ∧ Hid (Below w1.heap.size w1 wr)) (fun _ _ i _ _ _ => (intOf i + 1).toNat)
    case atStart => exact ⟨m + 1, a, 0, [], none, 0, by omega, by omega, by go_num, rfl, rfl, HST, Lib.hid (World.ownsRow_nil _ _ _ _), Lib.hid (Below.refl _ _)⟩
    case round =>
      obtain ⟨q, cur, k, done, A2, c2, hq, hk, rfl, rfl, rfl, hr, hown, hbw⟩ := hrel
      cases q with
      | zero =>
        have hdl : k = m + 1 := by
          have h3 := own_len hown.out
          have h4 := hr.out.2.1
          simp at h3
          omega
        subst hdl
        have hlt : ((0 : Nat) : Int) - 1 < 0 := by decide
        have HE := Lib.hid (hr.out.2.2.1 rfl)
        go_wp2_with fail
        go_ret2
        exact .inl ⟨m, HMM.out, A2, c2, rfl, by rw [← HE.out]; exact own_base hown.out HB1.out.size, below_then HB1.out hbw.out⟩
      | succ j =>
        have hmeet := hr.out.2.2.2.1 j rfl
        have HNX := Lib.hid (someRel_next HG.out HIB.out hr.out)
        have hlow := meet_low HG.out HIB.out hmeet.1
        have hlown : low (cur &&& ring l b j) < n := by rw [← HL.out]; exact hlow
        have e1 := u64_and_nat cur (ring l b j) hr.out.1 ((ring_in HG.out HIB.out j).b64 HG.out)
        have HCB := Lib.hid (hr.out.1.and (t := ring l b j))
        have HF0 := Lib.hid (fromS_zero HCB.out)
        have HNZ := Lib.hid hmeet.1.1
        obtain ⟨b2, o2, rfl, x1⟩ := (HR.out.below hbw.out).set (k := j) (by rw [rings_len]; omega)
        rw [rings_at l b m j (by omega)] at x1
        obtain ⟨b3, o3, rfl, x2⟩ := (H1.out.below HB1.out).set (k := low (cur &&& ring l b j)) hlow
        have X2 := Lib.hid x2
        clear x2
        have HTW := Lib.hid ((HT.out.below HB1.out).below hbw.out)
        have hsz := hbw.out.size
        have ej : ((j + 1 : Nat) : Int) - 1 = (j : Int) := by omega
        rw [ej]
        have hkl : k ≤ m := by
          have h3 := own_len hown.out
          have h4 := hr.out.2.1
          simp at h3
          omega
        clear hmeet hlow ej
        go_wp2_with fail
        refine (next_yes _ 0 HCB.out (by rw [HF0.out]; exact HNZ.out) _ HTW.out).mono ?_
        rintro e w' ⟨rfl, rfl⟩
        rw [HF0.out]
        generalize low (cur &&& ring l b j) = x at *
        go_wp2_with (at_builtin; refine wpList_push elInt wr _ _ w1.heap.size A2 k c2 _ (nv x) hown.out rfl hsz (by omega) (by omega) rfl rfl rfl rfl ?_; intro A' c' w3 hown3 hb3; have x3 := ((hbw.out.trans hb3).cell (p := ⟨b3, o3 + x, none⟩) (lt_of_cell' X2.out)).trans X2.out)
        go_roundw
        case rel => exact ⟨j, rowAt l x, k + 1, done ++ [x], A', c', by omega, by omega, rfl, rfl, rfl, HNX, Lib.hid (by rw [List.map_append]; exact hown3), Lib.hid (hbw.out.trans hb3)⟩
        case measure => simp [intOf]
  · have HNO := Lib.hid hno
    clear hno
    go_wp2_with fail
    go_ret2
    exact .inr ⟨HNO.out, rfl, hb1⟩
end Go.Proofs.YtonmkmghpiagjaaDoor
