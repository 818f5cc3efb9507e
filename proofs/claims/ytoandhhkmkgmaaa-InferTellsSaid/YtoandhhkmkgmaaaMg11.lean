/- Some of the proof's texts, merged; each one's own words stand ahead of it. -/
import Derived.Test.YtoandhhkmkgmaaaMg10
import Derived.Lib.AppendZeros
/- Contracts: slices.Grow of nil; slices.Concat of two. Lengths below 2^40. -/
namespace Go.Proofs.Ytoandhhkmkgmaaa
open Go.RowKit

theorem zeros_size (n : Nat) : (Builtin.zeroCells (Value.string ⟨#[]⟩).cells n).size = n := by
  show ((Array.range (n * 1)).map _).size = n
  simp
theorem grow_row {w : World} {n : Nat} (hn : n ≤ 8800000000000) :
    (w.drew.alloc (.cells (Builtin.zeroCells (Value.string ⟨#[]⟩).cells n ++ Builtin.zeroCells (Value.string ⟨#[]⟩).cells (grownCap w n 0 9 - n)) 9)).ownsRow w.heap.size 9 1 (.slice (some ⟨w.heap.size, 0, none⟩) 0 (grownCap w n 0 9)) 0 [] := by
  have h1 := grownCap_ge w n 0 9
  have h2 := grownCap_le_maxLen w n 0 9 (by unfold maxLen; omega)
  have h0 : ∀ o : Obj, (w.drew.alloc o).heap[w.heap.size]? = some o := fun o => by
    show (w.heap.push o)[w.heap.size]? = some o
    simp
  refine ⟨rfl, .inr ⟨w.heap.size, _, _, rfl, Nat.le_refl _, h0 _, by omega, h2, ?_, by simp⟩⟩
  rw [Array.size_append, zeros_size, zeros_size]
  omega

set_option maxRecDepth 100000 in
set_option maxHeartbeats 1000000 in
theorem grow_any (n : Nat) (w : World) (hb : n ≤ 8800000000000) :
    Calls Try.prog 69 #[.slice none 0 0, .int .i64 (n : Int)] w fun e w' =>
      ∃ A c, e = .returned (.slice A 0 c) ∧ w'.ownsRow w.heap.size 9 1 (.slice A 0 c) 0 [] ∧ Below w.heap.size w w' := by
  obtain ⟨ht, i, hi, hz, hs1, hbb, hzs⟩ := elStr
  by_cases h0 : n = 0
  · subst h0
    clear hz hs1 hbb hzs ht hi
    go_enter Try.func69, Try.ntmps69
    go_wp2_with fail
    go_ret
    exact ⟨none, 0, rfl, World.ownsRow_nil _ _ _ _, Below.refl _ _⟩
  · have HA := Lib.hid (Lib.run_append_nil_zeros (P := Try.prog) w 32 3 32 9 i (.string ⟨#[]⟩) .i64 .i64 ht Try.underlying3 hi hz n (by omega) (by omega) (by omega) (by rw [hbb]; omega))
    have HR := Lib.hid (grow_row (w := w) (n := n) hb)
    have HG := Lib.hid (grownCap_ge w n 0 9)
    have HB : Hid (Below w.heap.size w (w.drew.alloc (.cells (Builtin.zeroCells (Value.string ⟨#[]⟩).cells n ++ Builtin.zeroCells (Value.string ⟨#[]⟩).cells (grownCap w n 0 9 - n)) 9))) := Lib.hid (below_new (below_of_drewN w 1) _)
    clear hz hs1 hbb hzs ht hi
    generalize (w.drew.alloc (.cells (Builtin.zeroCells (Value.string ⟨#[]⟩).cells n ++ Builtin.zeroCells (Value.string ⟨#[]⟩).cells (grownCap w n 0 9 - n)) 9)) = w1 at HA HR HB
    have hg := HG.out
    generalize grownCap w n 0 9 = cc at HA HR HG hg
    have hpos : 0 < n := by omega
    go_enter Try.func69, Try.ntmps69
    go_wp2_with (at_builtin; refine Lib.wpList_append_run _ rfl _ _ _ _ rfl _ _ rfl rfl _ _ HA.out ?_)
    go_ret
    exact ⟨_, _, rfl, HR.out, HB.out⟩

def CatRel (w : World) (n1 n2 : Nat) (l1 l2 : List (List UInt8)) (k : Nat) (v : Value) (wr : World) : Prop :=
  (k = 0 ∧ ∃ A c, v = .slice A 0 c ∧ wr.ownsRow w.heap.size 9 1 (.slice A 0 c) 0 [] ∧ Below w.heap.size w wr) ∨
  (k = 1 ∧ ∃ A c, v = .slice A n1 c ∧ wr.ownsRow w.heap.size 9 1 (.slice A n1 c) n1 (l1.map sv) ∧ Below w.heap.size w wr) ∨
  (k = 2 ∧ ∃ A c, v = .slice A (n1 + n2) c ∧ wr.ownsRow w.heap.size 9 1 (.slice A (n1 + n2) c) (n1 + n2) ((l1 ++ l2).map sv) ∧ Below w.heap.size w wr)
set_option maxRecDepth 100000 in
set_option maxHeartbeats 2000000 in
theorem concat_any {b : Nat} {A1 A2 : Option Addr} {n1 c1 n2 c2 : Nat} (l1 l2 : List (List UInt8)) (w : World) (hb : b < w.heap.size)
    (e1 : w.cell? ⟨b, 0, none⟩ = some (.slice A1 n1 c1)) (e2 : w.cell? ⟨b, 1, none⟩ = some (.slice A2 n2 c2)) (h1 : Rd w A1 (l1.map sv)) (h2 : Rd w A2 (l2.map sv)) (hn1 : l1.length = n1) (hn2 : l2.length = n2) (hN : n1 + n2 ≤ 8800000000000) :
    Calls Try.prog 43 #[.slice (some ⟨b, 0, none⟩) 2 2] w fun e w' =>
      ∃ A c, e = .returned (.slice A (n1 + n2) c) ∧ w'.ownsRow w.heap.size 9 1 (.slice A (n1 + n2) c) (n1 + n2) ((l1 ++ l2).map sv) ∧ Below w.heap.size w w' := by
  have H1 := Lib.hid h1
  have H2 := Lib.hid h2
  have HN1 := Lib.hid hn1
  have HN2 := Lib.hid hn2
  have HG := Lib.hid (grow_any (n1 + n2) w hN)
  have E1 := Lib.hid e1
  have E2 := Lib.hid e2
  clear h1 h2 hn1 hn2
  have e2' : w.cell? ⟨b, 0 + 1, none⟩ = some (.slice A2 n2 c2) := e2
  go_enter Try.func43, Try.ntmps43
  go_wp2_with fail
  go_loop [3, 5, 11] (fun s _ i => ∃ k m : Nat, i = .int .i64 (k : Int) ∧ s = .int .i64 (m : Int) ∧ ((k = 0 ∧ m = 0) ∨ (k = 1 ∧ n1 = m) ∨ (k = 2 ∧ n1 + n2 = m))) (fun _ _ i => 2 - (intOf i).toNat)
  case atStart => exact ⟨0, 0, rfl, rfl, .inl ⟨rfl, rfl⟩⟩
  case round =>
    obtain ⟨k, m, rfl, rfl, ⟨rfl, rfl⟩ | ⟨rfl, rfl⟩ | ⟨rfl, rfl⟩⟩ := hrel
    · go_wp2_with fail
      go_round
      case rel => exact ⟨1, n1, rfl, by go_num, .inr (.inl ⟨rfl, rfl⟩)⟩
      case measure => simp [intOf]
    · go_wp2_with fail
      go_round
      case rel => exact ⟨2, n1 + n2, rfl, by go_num, .inr (.inr ⟨rfl, rfl⟩)⟩
      case measure => simp [intOf]
    · clear e1 e2 e2'
      have hcast : ((n1 + n2 : Nat) : Int) = (n1 : Int) + (n2 : Int) := by omega
      go_wp2_with fail
      refine Calls.mono (by have := HG.out; rw [hcast] at this; exact this) ?_
      rintro e w1 ⟨A0, c0, rfl, hown, hb1⟩
      have hrel0 : CatRel w n1 n2 l1 l2 0 (.slice A0 0 c0) w1 := .inl ⟨rfl, A0, c0, rfl, hown, hb1⟩
      have HR0 := Lib.hid hrel0
      clear hown hb1 hrel0 hcast
      go_wp2_with fail
      go_loopw [6, 8, 27] (fun v _ i wr => ∃ k : Nat, i = .int .i64 (k : Int) ∧ CatRel w n1 n2 l1 l2 k v wr) (fun _ _ i _ => 2 - (intOf i).toNat)
      case atStart => exact ⟨0, rfl, HR0.out⟩
      case round =>
        obtain ⟨k, rfl, hk⟩ := hrel
        rcases hk with ⟨rfl, A, c, rfl, hown, hbl⟩ | ⟨rfl, A, c, rfl, hown, hbl⟩ | ⟨rfl, A, c, rfl, hown, hbl⟩
        · have f1 := (hbl.cell (p := ⟨b, 0, none⟩) hb).trans E1.out
          have HO := Lib.hid hown
          have HB := Lib.hid hbl
          have HRD := Lib.hid (H1.out.below hbl)
          have hsz := hbl.size
          clear hown hbl
          go_wp2_with (at_builtin; refine wpList_catW elStr (by decide) (by decide) wr _ _ w.heap.size A 0 c [] A1 n1 c1 (l1.map sv) HO.out HRD.out (by rw [List.length_map]; exact HN1.out) (sv_one l1) hsz (by omega) rfl rfl rfl rfl ?_; intro A' c' w5 hown5 hb5)
          rw [Nat.zero_add, List.nil_append] at hown5
          have HO5 := Lib.hid hown5
          have HB5 := Lib.hid (HB.out.trans hb5)
          clear hown5 hb5 f1 hsz
          go_roundw
          case rel => exact ⟨1, rfl, .inr (.inl ⟨rfl, A', c', rfl, HO5.out, HB5.out⟩)⟩
          case measure => simp [intOf]
        · have f1 : wr.cell? ⟨b, 0 + 1, none⟩ = some (.slice A2 n2 c2) := (hbl.cell (p := ⟨b, 1, none⟩) hb).trans E2.out
          have HO := Lib.hid hown
          have HB := Lib.hid hbl
          have HRD := Lib.hid (H2.out.below hbl)
          have hsz := hbl.size
          clear hown hbl
          go_wp2_with (at_builtin; refine wpList_catW elStr (by decide) (by decide) wr _ _ w.heap.size A n1 c (l1.map sv) A2 n2 c2 (l2.map sv) HO.out HRD.out (by rw [List.length_map]; exact HN2.out) (sv_one l2) hsz (by omega) rfl rfl rfl rfl ?_; intro A' c' w5 hown5 hb5)
          rw [← List.map_append] at hown5
          have HO5 := Lib.hid hown5
          have HB5 := Lib.hid (HB.out.trans hb5)
          clear hown5 hb5 f1 hsz
          go_roundw
          case rel => exact ⟨2, rfl, .inr (.inr ⟨rfl, A', c', rfl, HO5.out, HB5.out⟩)⟩
          case measure => simp [intOf]
        · have HO := Lib.hid hown
          have HB := Lib.hid hbl
          clear hown hbl
          go_wp2_with fail
          go_ret
          exact ⟨A, c, rfl, HO.out, HB.out⟩
end Go.Proofs.Ytoandhhkmkgmaaa
/- Contracts: slices.Index and slices.Contains at texts; the rules' twice, the reference's doubled; slices.Concat of any list of lists. Lengths together below 2^40. -/
namespace Go.Proofs.Ytoandhhkmkgmaaa
open Go.RowKit

def inL (l : List (List UInt8)) (s : List UInt8) : Bool := decide (s ∈ l)
set_option maxHeartbeats 1000000 in
theorem slIndex_any {A : Option Addr} {n c : Nat} (l : List (List UInt8)) (s : List UInt8) (w : World) (hr : Rd w A (l.map sv)) (hn : l.length = n) (hb : n ≤ 9223372036854775807) :
    Calls Try.prog 63 #[.slice A n c, .string ⟨s.toArray⟩] w (PlaceIs l s w) := by
  have HR := Lib.hid hr
  have HN := Lib.hid hn
  generalize hbs : (⟨s.toArray⟩ : ByteArray) = bs
  have HBS := Lib.hid hbs
  clear hr hn hbs
  go_enter Try.func63, Try.ntmps63
  go_wp2_with fail
  go_loop [5, 8] (fun _ i => ∃ k : Nat, k ≤ n ∧ i = .int .i64 (k : Int) ∧ Hid (∀ (j : Nat) (x : List UInt8), j < k → l[j]? = some x → x ≠ s)) (fun _ i => n - (intOf i).toNat)
  case atStart => exact ⟨0, by omega, rfl, Lib.hid (fun _ _ hj => absurd hj (Nat.not_lt_zero _))⟩
  case round =>
    obtain ⟨k, hk, rfl, hall⟩ := hrel
    by_cases hlt : k < n
    · obtain ⟨x, hx⟩ : ∃ x, l[k]? = some x := ⟨_, List.getElem?_eq_getElem (by rw [HN.out]; exact hlt)⟩
      obtain ⟨b, off, rfl, hc⟩ := HR.out.scell hx
      have HX := Lib.hid hx
      have HEQ := Lib.hid (eq_sv s x)
      rw [HBS.out] at HEQ
      generalize (⟨x.toArray⟩ : ByteArray) = bx at hc HEQ
      clear hx
      by_cases he : x = s
      · have h1 : (bs.toList == bx.toList) = true := by rw [HEQ.out, he]; simp
        have HS := Lib.hid he
        clear he
        go_wp2_with fail
        go_ret
        exact ⟨(k : Int), rfl, rfl, .inr ⟨k, rfl, by rw [HX.out, HS.out]⟩⟩
      · have h1 : (bs.toList == bx.toList) = false := by rw [HEQ.out]; simp; exact fun e => he e.symm
        have HS := Lib.hid he
        clear he
        go_wp2_with fail
        go_round
        case rel => exact ⟨k + 1, by omega, by go_num, Lib.hid (fun j y hj hy => by
          rcases Nat.lt_or_ge j k with h | h
          · exact hall.out j y h hy
          · obtain rfl : j = k := by omega
            rw [HX.out] at hy
            injection hy with hy
            rw [← hy]; exact HS.out)⟩
        case measure => simp [intOf]; omega
    · go_wp2_with fail
      go_ret
      exact ⟨-1, rfl, rfl, .inl ⟨rfl, fun hm => by
        obtain ⟨j, hj⟩ := List.mem_iff_getElem?.1 hm
        exact hall.out j s (by have := (List.getElem?_eq_some_iff.1 hj).1; have := HN.out; omega) hj rfl⟩⟩
theorem slContains_any {A : Option Addr} {n c : Nat} (l : List (List UInt8)) (s : List UInt8) (w : World) (hr : Rd w A (l.map sv)) (hn : l.length = n) (hb : n ≤ 9223372036854775807) :
    Calls Try.prog 33 #[.slice A n c, .string ⟨s.toArray⟩] w fun e w' => e = .returned (.bool (inL l s)) ∧ w = w' := by
  have HI := Lib.hid (slIndex_any (c := c) l s w hr hn hb)
  generalize hbs : (⟨s.toArray⟩ : ByteArray) = bs at *
  clear hr hn hbs
  go_enter Try.func33, Try.ntmps33
  go_wp2_with fail
  refine HI.out.mono ?_
  rintro e w1 ⟨i, rfl, rfl, hi⟩
  rcases hi with ⟨rfl, hno⟩ | ⟨k, rfl, hk⟩
  · have HE : Hid (false = inL l s) := Lib.hid (by unfold inL; simp [hno])
    clear hno
    go_wp2_with fail
    go_ret
    exact ⟨ret_bool HE.out, rfl⟩
  · have HE : Hid (true = inL l s) := Lib.hid (by unfold inL; simp [List.mem_of_getElem? hk])
    clear hk
    have k0 : (0 : Int) ≤ (k : Int) := by omega
    go_wp2_with fail
    go_ret
    exact ⟨ret_bool HE.out, rfl⟩
/-! ### Twice -/
def dblL (l : List (List UInt8)) : Bool := !decide l.Nodup
theorem take_snocS {α : Type} {s : List α} {i : Nat} {c : α} (h : s[i]? = some c) : s.take (i + 1) = s.take i ++ [c] := by rw [List.take_add_one, h]; rfl
theorem nodup_snoc {l : List (List UInt8)} {x : List UInt8} : (l ++ [x]).Nodup ↔ l.Nodup ∧ x ∉ l := by
  rw [List.nodup_append]
  constructor
  · rintro ⟨h1, _, h3⟩
    exact ⟨h1, fun hm => h3 x hm x (List.mem_singleton_self _) rfl⟩
  · rintro ⟨h1, h2⟩
    refine ⟨h1, by simp, fun a ha b hb e => ?_⟩
    rw [List.mem_singleton.1 hb] at e
    exact h2 (e ▸ ha)
theorem nodup_take_of {l : List (List UInt8)} (h : l.Nodup) (i : Nat) : (l.take i).Nodup := h.sublist (List.take_sublist _ _)
theorem dbl_yes {l : List (List UInt8)} {i : Nat} {x : List UInt8} (h : l[i]? = some x) (hi : inL (l.take i) x = true) : dblL l = true := by
  unfold dblL
  have : ¬ l.Nodup := fun hn => by
    have h2 := nodup_take_of hn (i + 1)
    rw [take_snocS h, nodup_snoc] at h2
    exact h2.2 (of_decide_eq_true hi)
  simp [this]
theorem nodup_step {l : List (List UInt8)} {i : Nat} {x : List UInt8} (h : l[i]? = some x) (hn : (l.take i).Nodup) (hi : inL (l.take i) x = false) : (l.take (i + 1)).Nodup := by
  rw [take_snocS h, nodup_snoc]
  exact ⟨hn, of_decide_eq_false hi⟩
theorem dbl_no {l : List (List UInt8)} {i : Nat} (hi : l.length ≤ i) (h : (l.take i).Nodup) : dblL l = false := by
  rw [List.take_of_length_le hi] at h
  unfold dblL
  simp [h]
theorem Rd.takeS {w : World} {A : Option Addr} {l : List (List UInt8)} (h : Rd w A (l.map sv)) (i : Nat) : Rd w A ((l.take i).map sv) := fun hp => by
  rw [List.length_map, List.length_take] at hp
  obtain ⟨b, off, hA, hb, hc⟩ := h (by rw [List.length_map]; omega)
  refine ⟨b, off, hA, hb, fun j u hu => hc j u ?_⟩
  rw [List.map_take] at hu
  rw [List.getElem?_take] at hu
  split at hu
  · exact hu
  · cases hu
set_option maxRecDepth 100000 in
set_option maxHeartbeats 1000000 in
theorem twice_any {A : Option Addr} {n c : Nat} (l : List (List UInt8)) (w : World) (hr : Rd w A (l.map sv)) (hn : l.length = n) (hb : n ≤ 20) (hnc : n ≤ c) :
    Calls Try.prog 83 #[.slice A n c] w fun e w' => e = .returned (.bool (dblL l)) ∧ w = w' := by
  have HR := Lib.hid hr
  have HN := Lib.hid hn
  clear hr hn
  go_enter Try.func83, Try.ntmps83
  go_wp2_with fail
  go_loop [3, 4, 7] (fun _ _ i => ∃ k : Nat, k ≤ n ∧ i = .int .i64 (k : Int) ∧ Hid ((l.take k).Nodup)) (fun _ _ i => n - (intOf i).toNat)
  case atStart => exact ⟨0, by omega, rfl, Lib.hid (by simp)⟩
  case round =>
    obtain ⟨k, hk, rfl, hall⟩ := hrel
    by_cases hlt : k < n
    · obtain ⟨x, hx⟩ : ∃ x, l[k]? = some x := ⟨_, List.getElem?_eq_getElem (by rw [HN.out]; exact hlt)⟩
      have HC := Lib.hid (slContains_any (n := k) (c := c) (l.take k) x w (HR.out.takeS k) (by rw [List.length_take, HN.out]; omega) (by omega))
      obtain ⟨b, off, rfl, hc⟩ := HR.out.scell hx
      have HX := Lib.hid hx
      have HYS := Lib.hid (dbl_yes hx)
      have HNO := Lib.hid (nodup_step hx hall.out)
      have hkc : (k : Int) ≤ (c : Int) := by omega
      generalize (⟨x.toArray⟩ : ByteArray) = bx at hc HC
      clear hx
      cases hq : inL (l.take k) x with
      | true =>
        have HE := Lib.hid (HYS.out hq).symm
        rw [hq] at HC
        clear hq
        go_wp2_with fail
        refine HC.out.mono ?_
        rintro e w1 ⟨rfl, rfl⟩
        go_wp2_with fail
        go_ret
        exact ⟨ret_bool HE.out, rfl⟩
      | false =>
        have HE := Lib.hid (HNO.out hq)
        rw [hq] at HC
        clear hq
        go_wp2_with fail
        refine HC.out.mono ?_
        rintro e w1 ⟨rfl, rfl⟩
        go_wp2_with fail
        go_round
        case rel => exact ⟨k + 1, by omega, by go_num, HE⟩
        case measure => simp [intOf]; omega
    · have HE := Lib.hid (dbl_no (by rw [HN.out]; omega) hall.out).symm
      go_wp2_with fail
      go_ret
      exact ⟨ret_bool HE.out, rfl⟩
set_option maxRecDepth 100000 in
set_option maxHeartbeats 1000000 in
theorem doubled_any {A : Option Addr} {n c : Nat} (l : List (List UInt8)) (w : World) (hr : Rd w A (l.map sv)) (hn : l.length = n) (hb : n ≤ 20) (hnc : n ≤ c) :
    Calls Try.prog 88 #[.slice A n c] w fun e w' => e = .returned (.bool (dblL l)) ∧ w = w' := by
  have HR := Lib.hid hr
  have HN := Lib.hid hn
  clear hr hn
  go_enter Try.func88, Try.ntmps88
  go_wp2_with fail
  go_loop [3, 4, 7] (fun _ _ i => ∃ k : Nat, k ≤ n ∧ i = .int .i64 (k : Int) ∧ Hid ((l.take k).Nodup)) (fun _ _ i => n - (intOf i).toNat)
  case atStart => exact ⟨0, by omega, rfl, Lib.hid (by simp)⟩
  case round =>
    obtain ⟨k, hk, rfl, hall⟩ := hrel
    by_cases hlt : k < n
    · obtain ⟨x, hx⟩ : ∃ x, l[k]? = some x := ⟨_, List.getElem?_eq_getElem (by rw [HN.out]; exact hlt)⟩
      have HC := Lib.hid (place_any (n := k) (c := c) (l.take k) x w (HR.out.takeS k) (by rw [List.length_take, HN.out]; omega) (by omega))
      unfold sv at HC
      obtain ⟨b, off, rfl, hc⟩ := HR.out.scell hx
      have HX := Lib.hid hx
      have HYS := Lib.hid (dbl_yes hx)
      have HNO := Lib.hid (nodup_step hx hall.out)
      have hkc : (k : Int) ≤ (c : Int) := by omega
      generalize (⟨x.toArray⟩ : ByteArray) = bx at hc HC
      clear hx
      go_wp2_with fail
      refine HC.out.mono ?_
      rintro e w1 ⟨i, rfl, rfl, hi⟩
      rcases hi with ⟨rfl, hno⟩ | ⟨q, rfl, hq⟩
      · have HE := Lib.hid (HNO.out (by unfold inL; simp [hno]))
        clear hno
        go_wp2_with fail
        go_round
        case rel => exact ⟨k + 1, by omega, by go_num, HE⟩
        case measure => simp [intOf]; omega
      · have HE := Lib.hid (HYS.out (by unfold inL; simp [List.mem_of_getElem? hq])).symm
        have k0 : (0 : Int) ≤ (q : Int) := by omega
        clear hq
        go_wp2_with fail
        go_ret
        exact ⟨ret_bool HE.out, rfl⟩
    · have HE := Lib.hid (dbl_no (by rw [HN.out]; omega) hall.out).symm
      go_wp2_with fail
      go_ret
      exact ⟨ret_bool HE.out, rfl⟩
/-! ### Lists, one behind the other -/
/-- A slice that lies somewhere: where, its room, its texts. -/
abbrev PartT := Option Addr × Nat × List (List UInt8)
def partV (x : PartT) : Value := .slice x.1 x.2.2.length x.2.1
def catP (L : List PartT) : List (List UInt8) := L.flatMap (·.2.2)
def PartsIn (w : World) (L : List PartT) : Prop := ∀ x ∈ L, Rd w x.1 (x.2.2.map sv)
theorem PartsIn.below {w w' : World} {L : List PartT} (h : PartsIn w L) (hb : Below w.heap.size w w') : PartsIn w' L := fun x hx => (h x hx).below hb
theorem catP_snoc {L : List PartT} {k : Nat} {x : PartT} (h : L[k]? = some x) : catP (L.take (k + 1)) = catP (L.take k) ++ x.2.2 := by
  rw [take_snocS h]; unfold catP; rw [List.flatMap_append]; simp
theorem catP_le (L : List PartT) (k : Nat) : (catP (L.take k)).length ≤ (catP L).length := by
  conv => rhs; rw [← List.take_append_drop k L]
  unfold catP
  rw [List.flatMap_append, List.length_append]
  omega
def CatN (w : World) (L : List PartT) (k : Nat) (v : Value) (wr : World) : Prop :=
  ∃ A c, v = .slice A (catP (L.take k)).length c ∧ wr.ownsRow w.heap.size 9 1 (.slice A (catP (L.take k)).length c) (catP (L.take k)).length ((catP (L.take k)).map sv) ∧ Below w.heap.size w wr
set_option maxRecDepth 100000 in
set_option maxHeartbeats 2000000 in
theorem concatN_any {b n c : Nat} (L : List PartT) (w : World) (hb : b < w.heap.size) (hn : L.length = n) (hnb : n ≤ 1000)
    (hc : ∀ (j : Nat) (x : PartT), L[j]? = some x → w.cell? ⟨b, j, none⟩ = some (partV x)) (hI : PartsIn w L) (hN : (catP L).length ≤ 8800000000000) :
    Calls Try.prog 43 #[.slice (some ⟨b, 0, none⟩) n c] w fun e w' =>
      ∃ A c, e = .returned (.slice A (catP L).length c) ∧ w'.ownsRow w.heap.size 9 1 (.slice A (catP L).length c) (catP L).length ((catP L).map sv) ∧ Below w.heap.size w w' := by
  have HC := Lib.hid hc
  have HI := Lib.hid hI
  have HN := Lib.hid hn
  have HG := Lib.hid (grow_any (catP L).length w hN)
  have HLE := Lib.hid (catP_le L)
  have HB := Lib.hid hb
  have HCN := Lib.hid hN
  clear hc hI hn hN
  go_enter Try.func43, Try.ntmps43
  go_wp2_with fail
  go_loop [3, 5, 11] (fun s _ i => ∃ k : Nat, k ≤ n ∧ i = .int .i64 (k : Int) ∧ s = .int .i64 ((catP (L.take k)).length : Int)) (fun _ _ i => n - (intOf i).toNat)
  case atStart => exact ⟨0, by omega, rfl, by simp [catP]⟩
  case round =>
    obtain ⟨k, hk, rfl, rfl⟩ := hrel
    by_cases hlt : k < n
    · obtain ⟨x, hx⟩ : ∃ x, L[k]? = some x := ⟨_, List.getElem?_eq_getElem (by rw [HN.out]; exact hlt)⟩
      have hcx := HC.out k x hx
      obtain ⟨Ax, cx, lx⟩ := x
      have hsum : (catP (L.take (k + 1))).length = (catP (L.take k)).length + lx.length := by rw [catP_snoc hx, List.length_append]
      have h1 := HLE.out (k + 1)
      have h2 := HCN.out
      simp only [partV] at hcx
      have HSUM : Hid (((catP (L.take k)).length : Int) + (lx.length : Int) = ((catP (L.take (k + 1))).length : Int)) := Lib.hid (by rw [hsum]; omega)
      have HM : Hid ((catP (L.take k)).length + lx.length ≤ 8800000000000) := Lib.hid (by omega)
      clear hx hsum h1 h2
      generalize (catP (L.take k)).length = m at *
      generalize lx.length = q at *
      have hm1 := HM.out
      have hk1 : (k : Int) < (n : Int) := by omega
      go_wp2_with fail
      go_round
      case rel => exact ⟨k + 1, by omega, by go_num, congrArg (Value.int .i64) HSUM.out⟩
      case measure => simp [intOf]; omega
    · obtain rfl : k = n := by omega
      have HT : Hid (L.take k = L) := Lib.hid (List.take_of_length_le (by rw [HN.out]; exact Nat.le_refl _))
      rw [HT.out]
      go_wp2_with fail
      refine HG.out.mono ?_
      rintro e w1 ⟨A0, c0, rfl, hown, hb1⟩
      have hrel0 : CatN w L 0 (.slice A0 0 c0) w1 := ⟨A0, c0, rfl, hown, hb1⟩
      have HR0 := Lib.hid hrel0
      clear hown hb1 hrel0
      go_wp2_with fail
      go_loopw [6, 8, 27] (fun v _ i wr => ∃ j : Nat, j ≤ k ∧ i = .int .i64 (j : Int) ∧ CatN w L j v wr) (fun _ _ i _ => k - (intOf i).toNat)
      case atStart => exact ⟨0, by omega, rfl, HR0.out⟩
      case round =>
        obtain ⟨j, hj, rfl, A, c, rfl, hown, hbl⟩ := hrel
        by_cases hlt : j < k
        · obtain ⟨x, hx⟩ : ∃ x, L[j]? = some x := ⟨_, List.getElem?_eq_getElem (by rw [HN.out]; exact hlt)⟩
          have hcx : wr.cell? ⟨b, j, none⟩ = some (partV x) := (hbl.cell (p := ⟨b, j, none⟩) HB.out).trans (HC.out j x hx)
          have hrx := (HI.out x (List.mem_of_getElem? hx)).below hbl
          have hsn := catP_snoc hx
          have h1 := HLE.out (j + 1)
          have h2 := HCN.out
          obtain ⟨Ax, cx, lx⟩ := x
          simp only [partV] at hcx hrx hsn
          have hj1 : (j : Int) < (k : Int) := by omega
          have HO := Lib.hid hown
          have HB2 := Lib.hid hbl
          have HRD := Lib.hid hrx
          have HSN := Lib.hid hsn
          have hlen : (catP (L.take j)).length + lx.length ≤ 8800000000000 := by rw [hsn, List.length_append] at h1; omega
          have hsz := hbl.size
          clear hown hbl hrx hsn h1 h2 hx
          generalize hX : catP (L.take j) = X at *
          generalize hm : X.length = m at *
          generalize hq : lx.length = q at *
          have HX := Lib.hid hX
          have HMq := Lib.hid hm
          have HQq := Lib.hid hq
          clear hX hm hq
          go_wp2_with (at_builtin; refine wpList_catW elStr (by decide) (by decide) wr _ _ w.heap.size A m c (X.map sv) Ax q cx (lx.map sv) HO.out HRD.out (by rw [List.length_map]; exact HQq.out) (sv_one lx) hsz (by omega) rfl rfl rfl rfl ?_; intro A' c' w5 hown5 hb5)
          rw [← List.map_append] at hown5
          have HO5 := Lib.hid hown5
          have HB5 := Lib.hid (HB2.out.trans hb5)
          clear hown5 hb5 hcx hsz
          go_roundw
          case rel =>
            refine ⟨j + 1, by omega, by go_num, A', c', ?_, ?_, HB5.out⟩
            · rw [HSN.out, List.length_append, HMq.out, HQq.out]
            · rw [HSN.out, List.length_append, HMq.out, HQq.out]; exact HO5.out
          case measure => simp [intOf]; omega
        · obtain rfl : j = k := by omega
          rw [HT.out] at hown ⊢
          have HO := Lib.hid hown
          have HB2 := Lib.hid hbl
          clear hown hbl
          go_wp2_with fail
          go_ret
          exact ⟨A, c, rfl, HO.out, HB2.out⟩
end Go.Proofs.Ytoandhhkmkgmaaa
/- Contracts: rule.Check, the reference's RuleFault. Lists and texts below 2^63; a slice's length within its room. -/
namespace Go.Proofs.Ytoandhhkmkgmaaa
open Go.RowKit

abbrev RuleT := List (List UInt8) × List (List UInt8)
def rlV (A1 : Option Addr) (n1 c1 : Nat) (A2 : Option Addr) (n2 c2 : Nat) : Value := .agg #[.slice A1 n1 c1, .slice A2 n2 c2]
structure RlIn (A1 : Option Addr) (n1 c1 : Nat) (A2 : Option Addr) (n2 c2 : Nat) (r : RuleT) (w : World) : Prop where
  t : Rd w A1 (r.1.map sv)
  n : Rd w A2 (r.2.map sv)
  tl : r.1.length = n1
  nl : r.2.length = n2
  tb : n1 ≤ 9223372036854775807
  nb : n2 ≤ 9223372036854775807
  tc : n1 ≤ c1
  nc : n2 ≤ c2
  ts : StrsOk r.1
  ns : StrsOk r.2
theorem RlIn.below {A1 A2 : Option Addr} {n1 c1 n2 c2 : Nat} {r : RuleT} {w w' : World} (h : RlIn A1 n1 c1 A2 n2 c2 r w) (hb : Below w.heap.size w w') : RlIn A1 n1 c1 A2 n2 c2 r w' :=
  ⟨h.t.below hb, h.n.below hb, h.tl, h.nl, h.tb, h.nb, h.tc, h.nc, h.ts, h.ns⟩
def rlE (r : RuleT) : Nat := if 20 < r.1.length ∨ 20 < r.2.length then 2 else if r.1.length = 0 ∨ (r.1 ++ r.2).all goodName = false then 3 else if dblL r.1 = true ∨ dblL r.2 = true then 6 else 0
theorem rlE_2 {r : RuleT} (h : 20 < r.1.length ∨ 20 < r.2.length) : rlE r = 2 := by unfold rlE; rw [if_pos h]
theorem rlE_3 {r : RuleT} (h1 : ¬ 20 < r.1.length) (h2 : ¬ 20 < r.2.length) (h : r.1.length = 0 ∨ (r.1 ++ r.2).all goodName = false) : rlE r = 3 := by
  unfold rlE; rw [if_neg (fun e => e.elim h1 h2), if_pos h]
theorem rlE_6 {r : RuleT} (h1 : ¬ 20 < r.1.length) (h2 : ¬ 20 < r.2.length) (h3 : ¬ r.1.length = 0) (h4 : (r.1 ++ r.2).all goodName = true) (h : dblL r.1 = true ∨ dblL r.2 = true) : rlE r = 6 := by
  unfold rlE; rw [if_neg (fun e => e.elim h1 h2), if_neg (fun e => e.elim h3 (fun e => by rw [h4] at e; cases e)), if_pos h]
theorem rlE_0 {r : RuleT} (h1 : ¬ 20 < r.1.length) (h2 : ¬ 20 < r.2.length) (h3 : ¬ r.1.length = 0) (h4 : (r.1 ++ r.2).all goodName = true) (h5 : dblL r.1 = false) (h6 : dblL r.2 = false) : rlE r = 0 := by
  unfold rlE; rw [if_neg (fun e => e.elim h1 h2), if_neg (fun e => e.elim h3 (fun e => by rw [h4] at e; cases e)), if_neg (fun e => e.elim (fun e => by rw [h5] at e; cases e) (fun e => by rw [h6] at e; cases e))]
theorem rlE_ok {r : RuleT} (h : rlE r = 0) : r.1.length ≤ 20 ∧ r.2.length ≤ 20 ∧ 0 < r.1.length ∧ r.1.all goodName = true ∧ r.2.all goodName = true ∧ r.1.Nodup ∧ r.2.Nodup := by
  unfold rlE at h
  split at h
  · cases h
  rename_i h1
  split at h
  · cases h
  rename_i h2
  split at h
  · cases h
  rename_i h3
  have h4 : (r.1 ++ r.2).all goodName = true := by
    cases hq : (r.1 ++ r.2).all goodName with
    | true => rfl
    | false => exact absurd (.inr hq) h2
  rw [List.all_append, Bool.and_eq_true] at h4
  refine ⟨by omega, by omega, by omega, h4.1, h4.2, ?_, ?_⟩
  · by_cases hq : r.1.Nodup
    · exact hq
    · exact absurd (.inl (by unfold dblL; simp [hq])) h3
  · by_cases hq : r.2.Nodup
    · exact hq
    · exact absurd (.inr (by unfold dblL; simp [hq])) h3
theorem good_len {s : List UInt8} (h : goodName s = true) : s.length ≤ 40 := by
  unfold goodName at h
  simp at h
  exact h.2.2
/-- Two cells in a block of their own. -/
structure BoxTwo (B : Nat) (v1 v2 : Value) (w : World) : Prop where
  c1 : w.cell? ⟨B, 0, none⟩ = some v1
  c2 : w.cell? ⟨B, 1, none⟩ = some v2
theorem cell_kept {w w' : World} {B o : Nat} {v : Value} (h : w.cell? ⟨B, o, none⟩ = some v) (hb : Below w.heap.size w w') : w'.cell? ⟨B, o, none⟩ = some v := (hb.cell (p := ⟨B, o, none⟩) (lt_of_cell' h)).trans h
theorem BoxTwo.below {B : Nat} {v1 v2 : Value} {w w' : World} (h : BoxTwo B v1 v2 w) (hb : Below w.heap.size w w') : BoxTwo B v1 v2 w' := ⟨cell_kept h.c1 hb, cell_kept h.c2 hb⟩
theorem rbox_two (w : World) (x1 x2 : Value) (t : TypeId) : BoxTwo w.heap.size x1 x2 (w.alloc (.cells #[x1, x2] t)) ∧ Below w.heap.size w (w.alloc (.cells #[x1, x2] t)) := by
  refine ⟨⟨?_, ?_⟩, below_new (Below.refl _ _) _⟩ <;> (rw [World.cell?_alloc_at _ _ _ _ rfl]; rfl)
def RlPost (v : Int) (w : World) (e : Ending) (w' : World) : Prop := e = .returned (.int .i64 v) ∧ Below w.heap.size w w'
section
variable {A1 A2 : Option Addr} {n1 c1 n2 c2 : Nat} {r : RuleT} (w : World) (hr : RlIn A1 n1 c1 A2 n2 c2 r w)
include hr
set_option maxRecDepth 100000 in
set_option maxHeartbeats 4000000 in
theorem rlCheck_any : Calls Try.prog 68 #[rlV A1 n1 c1 A2 n2 c2] w (RlPost (rlE r : Nat) w) := by
  have HR := Lib.hid hr
  have hnb1 := hr.tb
  have hnb2 := hr.nb
  have HL1 := Lib.hid hr.tl
  have HL2 := Lib.hid hr.nl
  obtain ⟨x, y⟩ := rbox_two w (.slice A1 n1 c1) (.slice A2 n2 c2) 82
  have X := Lib.hid x
  have Y := Lib.hid y
  clear hr y
  unfold rlV
  go_enter Try.func68, Try.ntmps68
  go_upto_region 1 with fail
  generalize w.alloc (.cells #[.slice A1 n1 c1, .slice A2 n2 c2] 82) = wb at *
  obtain ⟨x1, x2⟩ := x
  by_cases h1 : 20 < n1
  · have HE : Hid ((2 : Int) = (rlE r : Nat)) := Lib.hid (by rw [rlE_2 (.inl (by rw [HL1.out]; exact h1))]; rfl)
    have h1' : (20 : Int) < (n1 : Int) := by omega
    go_wp2_with fail
    go_ret
    exact ⟨ret_int HE.out, Y.out⟩
  have h1' : ¬ (20 : Int) < (n1 : Int) := by omega
  by_cases h2 : 20 < n2
  · have HE : Hid ((2 : Int) = (rlE r : Nat)) := Lib.hid (by rw [rlE_2 (.inr (by rw [HL2.out]; exact h2))]; rfl)
    have h2' : (20 : Int) < (n2 : Int) := by omega
    go_wp2_with fail
    go_ret
    exact ⟨ret_int HE.out, Y.out⟩
  have h2' : ¬ (20 : Int) < (n2 : Int) := by omega
  have H1 := Lib.hid h1
  have H2 := Lib.hid h2
  clear h1 h2
  by_cases h3 : n1 = 0
  · have HE : Hid ((3 : Int) = (rlE r : Nat)) := Lib.hid (by rw [rlE_3 (by rw [HL1.out]; exact H1.out) (by rw [HL2.out]; exact H2.out) (.inl (by rw [HL1.out]; exact h3))]; rfl)
    have h3' : ((n1 : Int) == 0) = true := by simp; omega
    clear h3
    go_wp2_with fail
    go_ret
    exact ⟨ret_int HE.out, Y.out⟩
  have h3' : ((n1 : Int) == 0) = false := by simp; omega
  have H3 := Lib.hid h3
  clear h3
  have hh1 := H1.out
  have hh2 := H2.out
  -- the two lists, one behind the other
  have HB2 : Hid (Below wb.heap.size wb (wb.alloc (.cells #[.slice A1 n1 c1, .slice A2 n2 c2] 32))) := Lib.hid (below_new (Below.refl _ _) _)
  have HCAT : Hid (catP [(A1, c1, r.1), (A2, c2, r.2)] = r.1 ++ r.2) := Lib.hid (by simp [catP])
  have HLEN : Hid ((r.1 ++ r.2).length = n1 + n2) := Lib.hid (by rw [List.length_append, HL1.out, HL2.out])
  have HBW := Lib.hid (below_then Y.out HB2.out)
  have HC := Lib.hid (concatN_any (n := 2) (c := 2) (b := wb.heap.size) [(A1, c1, r.1), (A2, c2, r.2)] (wb.alloc (.cells #[.slice A1 n1 c1, .slice A2 n2 c2] 32)) (by simp) rfl (by decide)
    (fun j x hx => by
      have hj := (List.getElem?_eq_some_iff.1 hx).1
      simp only [List.length_cons, List.length_nil] at hj
      rcases (by omega : j = 0 ∨ j = 1) with rfl | rfl
      · injection hx with hx; subst hx
        rw [World.cell?_alloc_at _ _ _ _ rfl, partV, HL1.out]; rfl
      · injection hx with hx; subst hx
        rw [World.cell?_alloc_at _ _ _ _ rfl, partV, HL2.out]; rfl)
    (fun x hx => by
      rcases List.mem_cons.1 hx with rfl | hx
      · exact HR.out.t.below HBW.out
      · rw [List.mem_singleton.1 hx]; exact HR.out.n.below HBW.out)
    (by rw [HCAT.out, HLEN.out]; omega))
  rw [HCAT.out, HLEN.out] at HC
  clear hh1 hh2
  go_wp2_with fail
  refine HC.out.mono ?_
  rintro e wc ⟨A, c, rfl, hown, hbc⟩
  have HRD := Lib.hid (Rd.of_own hown)
  have HBC := Lib.hid (below_then HBW.out hbc)
  have HXC := Lib.hid ((X.out.below HB2.out).below hbc)
  have HST : Hid (StrsOk (r.1 ++ r.2)) := Lib.hid (fun s hs => (List.mem_append.1 hs).elim (HR.out.ts s) (HR.out.ns s))
  clear hown hbc x1 x2 HB2 HC HCAT
  generalize hl : r.1 ++ r.2 = l at *
  have HLL := Lib.hid hl
  clear hl
  go_wp2_with fail
  go_loop [4, 5, 29] (fun _ _ i => ∃ k : Nat, k ≤ n1 + n2 ∧ i = .int .i64 (k : Int) ∧ Hid (∀ (j : Nat) (s : List UInt8), j < k → l[j]? = some s → goodName s = true)) (fun _ _ i => n1 + n2 - (intOf i).toNat)
  case atStart => exact ⟨0, by omega, rfl, Lib.hid (fun _ _ hj => absurd hj (Nat.not_lt_zero _))⟩
  case round =>
    obtain ⟨k, hk, rfl, hall⟩ := hrel
    by_cases hlt : k < n1 + n2
    · obtain ⟨x, hx⟩ : ∃ x, l[k]? = some x := ⟨_, List.getElem?_eq_getElem (by rw [HLEN.out]; exact hlt)⟩
      obtain ⟨b, off, rfl, hc⟩ := HRD.out.scell hx
      have HX := Lib.hid hx
      have HC := Lib.hid (nmCheck_any x wc (HST.out x (List.mem_of_getElem? hx)))
      unfold sv nameErr at HC
      have hkI : (k : Int) < (n1 : Int) + (n2 : Int) := by omega
      clear hx
      cases hq : goodName x with
      | true =>
        rw [hq] at HC
        have HQ := Lib.hid hq
        clear hq
        go_wp2_with fail
        refine HC.out.mono ?_
        rintro e w' ⟨rfl, rfl⟩
        go_wp2_with fail
        go_round
        case rel => exact ⟨k + 1, by omega, by go_num, Lib.hid (fun j s hj hs => by
          rcases Nat.lt_or_ge j k with h | h
          · exact hall.out j s h hs
          · obtain rfl : j = k := by omega
            rw [HX.out] at hs
            injection hs with hs
            rw [← hs]; exact HQ.out)⟩
        case measure => simp [intOf]; omega
      | false =>
        rw [hq] at HC
        have HE : Hid ((3 : Int) = (rlE r : Nat)) := Lib.hid (by rw [rlE_3 (by rw [HL1.out]; exact H1.out) (by rw [HL2.out]; exact H2.out) (.inr (by rw [HLL.out]; exact goods_no HX.out hq))]; rfl)
        clear hq
        go_wp2_with fail
        refine HC.out.mono ?_
        rintro e w' ⟨rfl, rfl⟩
        go_wp2_with fail
        go_ret
        exact ⟨ret_int HE.out, HBC.out⟩
    · have HG : Hid ((r.1 ++ r.2).all goodName = true) := Lib.hid (by rw [HLL.out]; exact goods_yes (fun j s hs => hall.out j s (by have := (List.getElem?_eq_some_iff.1 hs).1; have := HLEN.out; omega) hs))
      have HT1 := Lib.hid (twice_any (c := c1) r.1 wc (HR.out.t.below HBC.out) HL1.out (by have := H1.out; omega) HR.out.tc)
      have HT2 := Lib.hid (twice_any (c := c2) r.2 wc (HR.out.n.below HBC.out) HL2.out (by have := H2.out; omega) HR.out.nc)
      have HE6 := Lib.hid (fun h => rlE_6 (r := r) (by rw [HL1.out]; exact H1.out) (by rw [HL2.out]; exact H2.out) (by rw [HL1.out]; exact H3.out) HG.out h)
      have HE0 := Lib.hid (fun h h' => rlE_0 (r := r) (by rw [HL1.out]; exact H1.out) (by rw [HL2.out]; exact H2.out) (by rw [HL1.out]; exact H3.out) HG.out h h')
      have hkI : ¬ (k : Int) < (n1 : Int) + (n2 : Int) := by omega
      obtain ⟨x1, x2⟩ := HXC.out
      cases hd1 : dblL r.1 with
      | true =>
        have HE : Hid ((6 : Int) = (rlE r : Nat)) := Lib.hid (by rw [HE6.out (.inl hd1)]; rfl)
        rw [hd1] at HT1
        clear hd1
        go_wp2_with fail
        refine HT1.out.mono ?_
        rintro e w' ⟨rfl, rfl⟩
        go_wp2_with fail
        go_ret
        exact ⟨ret_int HE.out, HBC.out⟩
      | false =>
        rw [hd1] at HT1
        cases hd2 : dblL r.2 with
        | true =>
          have HE : Hid ((6 : Int) = (rlE r : Nat)) := Lib.hid (by rw [HE6.out (.inr hd2)]; rfl)
          rw [hd2] at HT2
          clear hd1 hd2
          go_wp2_with fail
          refine HT1.out.mono ?_
          rintro e w' ⟨rfl, rfl⟩
          go_wp2_with fail
          refine HT2.out.mono ?_
          rintro e w' ⟨rfl, rfl⟩
          go_wp2_with fail
          go_ret
          exact ⟨ret_int HE.out, HBC.out⟩
        | false =>
          have HE : Hid ((0 : Int) = (rlE r : Nat)) := Lib.hid (by rw [HE0.out hd1 hd2]; rfl)
          rw [hd2] at HT2
          clear hd1 hd2
          go_wp2_with fail
          refine HT1.out.mono ?_
          rintro e w' ⟨rfl, rfl⟩
          go_wp2_with fail
          refine HT2.out.mono ?_
          rintro e w' ⟨rfl, rfl⟩
          go_wp2_with fail
          go_ret
          exact ⟨ret_int HE.out, HBC.out⟩
set_option maxRecDepth 100000 in
set_option maxHeartbeats 4000000 in
theorem rFault_any : Calls Try.prog 75 #[rlV A1 n1 c1 A2 n2 c2] w (RlPost (rlE r : Nat) w) := by
  have HR := Lib.hid hr
  have hnb1 := hr.tb
  have hnb2 := hr.nb
  have HL1 := Lib.hid hr.tl
  have HL2 := Lib.hid hr.nl
  obtain ⟨x, y⟩ := rbox_two w (.slice A1 n1 c1) (.slice A2 n2 c2) 82
  have X := Lib.hid x
  have Y := Lib.hid y
  clear hr y
  unfold rlV
  go_enter Try.func75, Try.ntmps75
  go_upto_region 1 with fail
  generalize w.alloc (.cells #[.slice A1 n1 c1, .slice A2 n2 c2] 82) = wb at *
  obtain ⟨x1, x2⟩ := x
  by_cases h1 : 20 < n1
  · have HE : Hid ((2 : Int) = (rlE r : Nat)) := Lib.hid (by rw [rlE_2 (.inl (by rw [HL1.out]; exact h1))]; rfl)
    have h1' : (20 : Int) < (n1 : Int) := by omega
    go_wp2_with fail
    go_ret
    exact ⟨ret_int HE.out, Y.out⟩
  have h1' : ¬ (20 : Int) < (n1 : Int) := by omega
  by_cases h2 : 20 < n2
  · have HE : Hid ((2 : Int) = (rlE r : Nat)) := Lib.hid (by rw [rlE_2 (.inr (by rw [HL2.out]; exact h2))]; rfl)
    have h2' : (20 : Int) < (n2 : Int) := by omega
    go_wp2_with fail
    go_ret
    exact ⟨ret_int HE.out, Y.out⟩
  have h2' : ¬ (20 : Int) < (n2 : Int) := by omega
  have H1 := Lib.hid h1
  have H2 := Lib.hid h2
  clear h1 h2
  have HE3 := Lib.hid (fun h => rlE_3 (r := r) (by rw [HL1.out]; exact H1.out) (by rw [HL2.out]; exact H2.out) h)
  by_cases h3 : n1 = 0
  · have HE : Hid ((3 : Int) = (rlE r : Nat)) := Lib.hid (by rw [HE3.out (.inl (by rw [HL1.out]; exact h3))]; rfl)
    have h3' : ((n1 : Int) == 0) = true := by simp; omega
    clear h3
    go_wp2_with fail
    go_ret
    exact ⟨ret_int HE.out, Y.out⟩
  have h3' : ((n1 : Int) == 0) = false := by simp; omega
  have H3 := Lib.hid h3
  clear h3
  have HG1 := Lib.hid (goodNames_any (c := c1) r.1 wb (HR.out.t.below Y.out) HL1.out hnb1 HR.out.ts)
  have HG2 := Lib.hid (goodNames_any (c := c2) r.2 wb (HR.out.n.below Y.out) HL2.out hnb2 HR.out.ns)
  cases hg1 : r.1.all goodName with
  | false =>
    have HE : Hid ((3 : Int) = (rlE r : Nat)) := Lib.hid (by rw [HE3.out (.inr (by rw [List.all_append, hg1]; rfl))]; rfl)
    rw [hg1] at HG1
    clear hg1
    go_wp2_with fail
    refine HG1.out.mono ?_
    rintro e w' ⟨rfl, rfl⟩
    go_wp2_with fail
    go_ret
    exact ⟨ret_int HE.out, Y.out⟩
  | true =>
  rw [hg1] at HG1
  cases hg2 : r.2.all goodName with
  | false =>
    have HE : Hid ((3 : Int) = (rlE r : Nat)) := Lib.hid (by rw [HE3.out (.inr (by rw [List.all_append, hg1, hg2]; rfl))]; rfl)
    rw [hg2] at HG2
    clear hg1 hg2
    go_wp2_with fail
    refine HG1.out.mono ?_
    rintro e w' ⟨rfl, rfl⟩
    go_wp2_with fail
    refine HG2.out.mono ?_
    rintro e w' ⟨rfl, rfl⟩
    go_wp2_with fail
    go_ret
    exact ⟨ret_int HE.out, Y.out⟩
  | true =>
  rw [hg2] at HG2
  have HG : Hid ((r.1 ++ r.2).all goodName = true) := Lib.hid (by rw [List.all_append, hg1, hg2]; rfl)
  clear hg1 hg2
  have HT1 := Lib.hid (doubled_any (c := c1) r.1 wb (HR.out.t.below Y.out) HL1.out (by have := H1.out; omega) HR.out.tc)
  have HT2 := Lib.hid (doubled_any (c := c2) r.2 wb (HR.out.n.below Y.out) HL2.out (by have := H2.out; omega) HR.out.nc)
  have HE6 := Lib.hid (fun h => rlE_6 (r := r) (by rw [HL1.out]; exact H1.out) (by rw [HL2.out]; exact H2.out) (by rw [HL1.out]; exact H3.out) HG.out h)
  have HE0 := Lib.hid (fun h h' => rlE_0 (r := r) (by rw [HL1.out]; exact H1.out) (by rw [HL2.out]; exact H2.out) (by rw [HL1.out]; exact H3.out) HG.out h h')
  go_wp2_with fail
  refine HG1.out.mono ?_
  rintro e w' ⟨rfl, rfl⟩
  go_wp2_with fail
  refine HG2.out.mono ?_
  rintro e w' ⟨rfl, rfl⟩
  cases hd1 : dblL r.1 with
  | true =>
    have HE : Hid ((6 : Int) = (rlE r : Nat)) := Lib.hid (by rw [HE6.out (.inl hd1)]; rfl)
    rw [hd1] at HT1
    clear hd1
    go_wp2_with fail
    refine HT1.out.mono ?_
    rintro e w' ⟨rfl, rfl⟩
    go_wp2_with fail
    go_ret
    exact ⟨ret_int HE.out, Y.out⟩
  | false =>
  rw [hd1] at HT1
  cases hd2 : dblL r.2 with
  | true =>
    have HE : Hid ((6 : Int) = (rlE r : Nat)) := Lib.hid (by rw [HE6.out (.inr hd2)]; rfl)
    rw [hd2] at HT2
    clear hd1 hd2
    go_wp2_with fail
    refine HT1.out.mono ?_
    rintro e w' ⟨rfl, rfl⟩
    go_wp2_with fail
    refine HT2.out.mono ?_
    rintro e w' ⟨rfl, rfl⟩
    go_wp2_with fail
    go_ret
    exact ⟨ret_int HE.out, Y.out⟩
  | false =>
    have HE : Hid ((0 : Int) = (rlE r : Nat)) := Lib.hid (by rw [HE0.out hd1 hd2]; rfl)
    rw [hd2] at HT2
    clear hd1 hd2
    go_wp2_with fail
    refine HT1.out.mono ?_
    rintro e w' ⟨rfl, rfl⟩
    go_wp2_with fail
    refine HT2.out.mono ?_
    rintro e w' ⟨rfl, rfl⟩
    go_wp2_with fail
    go_ret
    exact ⟨ret_int HE.out, Y.out⟩
end
end Go.Proofs.Ytoandhhkmkgmaaa
