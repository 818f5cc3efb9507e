/- Contracts: slices.Index and slices.Contains at texts; the rules' twice, the reference's doubled; slices.Concat of any list of lists. Lengths together below 2^40. -/
import Derived.Test.YtoandhhkmkgmaaaName10
namespace Go.Proofs.Ytoandhhkmkgmaaa
open Go.RowKit

def inL (l : List (List UInt8)) (s : List UInt8) : Bool := decide (s ∈ l)
set_option maxHeartbeats 1000000 in
theorem slIndex_any {A : Option Addr} {n c : Nat} (l : List (List UInt8)) (s : List UInt8) (w : World) (hr : Rd w A (l.map sv)) (hn : l.length = n) (hb : n ≤ 9223372036854775807) :
    Calls Try.prog 63 #[.slice A n c, .string ⟨s.toArray⟩] w (PlaceIs l s w) := by
  have HR := Lib.hid hr
  have HN := Lib.hid hn
  generalize hbs : (⟨s.toArray⟩ : ByteArray) = bs
  have HBS := Lib.hid hbs
  clear hr hn hbs
  go_enter Try.func63, Try.ntmps63
  go_wp2_with fail
  go_loop [5, 8] (fun _ i => ∃ k : Nat, k ≤ n ∧ i = .int .i64 (k : Int) ∧ Hid (∀ (j : Nat) (x : List UInt8), j < k → l[j]? = some x → x ≠ s)) (fun _ i => n - (intOf i).toNat)
  case atStart => exact ⟨0, by omega, rfl, Lib.hid (fun _ _ hj => absurd hj (Nat.not_lt_zero _))⟩
  case round =>
    obtain ⟨k, hk, rfl, hall⟩ := hrel
    by_cases hlt : k < n
    · obtain ⟨x, hx⟩ : ∃ x, l[k]? = some x := ⟨_, List.getElem?_eq_getElem (by rw [HN.out]; exact hlt)⟩
      obtain ⟨b, off, rfl, hc⟩ := HR.out.scell hx
      have HX := Lib.hid hx
      have HEQ := Lib.hid (eq_sv s x)
      rw [HBS.out] at HEQ
      generalize (⟨x.toArray⟩ : ByteArray) = bx at hc HEQ
      clear hx
      by_cases he : x = s
      · have h1 : (bs.toList == bx.toList) = true := by rw [HEQ.out, he]; simp
        have HS := Lib.hid he
        clear he
        go_wp2_with fail
        go_ret
        exact ⟨(k : Int), rfl, rfl, .inr ⟨k, rfl, by rw [HX.out, HS.out]⟩⟩
      · have h1 : (bs.toList == bx.toList) = false := by rw [HEQ.out]; simp; exact fun e => he e.symm
        have HS := Lib.hid he
        clear he
        go_wp2_with fail
        go_round
        case rel => exact ⟨k + 1, by omega, by go_num, Lib.hid (fun j y hj hy => by
          rcases Nat.lt_or_ge j k with h | h
          · exact hall.out j y h hy
          · obtain rfl : j = k := by omega
            rw [HX.out] at hy
            injection hy with hy
            rw [← hy]; exact HS.out)⟩
        case measure => simp [intOf]; omega
    · go_wp2_with fail
      go_ret
      exact ⟨-1, rfl, rfl, .inl ⟨rfl, fun hm => by
        obtain ⟨j, hj⟩ := List.mem_iff_getElem?.1 hm
        exact hall.out j s (by have := (List.getElem?_eq_some_iff.1 hj).1; have := HN.out; omega) hj rfl⟩⟩
theorem slContains_any {A : Option Addr} {n c : Nat} (l : List (List UInt8)) (s : List UInt8) (w : World) (hr : Rd w A (l.map sv)) (hn : l.length = n) (hb : n ≤ 9223372036854775807) :
    Calls Try.prog 33 #[.slice A n c, .string ⟨s.toArray⟩] w fun e w' => e = .returned (.bool (inL l s)) ∧ w = w' := by
  have HI := Lib.hid (slIndex_any (c := c) l s w hr hn hb)
  generalize hbs : (⟨s.toArray⟩ : ByteArray) = bs at *
  clear hr hn hbs
  go_enter Try.func33, Try.ntmps33
  go_wp2_with fail
  refine HI.out.mono ?_
  rintro e w1 ⟨i, rfl, rfl, hi⟩
  rcases hi with ⟨rfl, hno⟩ | ⟨k, rfl, hk⟩
  · have HE : Hid (false = inL l s) := Lib.hid (by unfold inL; simp [hno])
    clear hno
    go_wp2_with fail
    go_ret
    exact ⟨ret_bool HE.out, rfl⟩
  · have HE : Hid (true = inL l s) := Lib.hid (by unfold inL; simp [List.mem_of_getElem? hk])
    clear hk
    have k0 : (0 : Int) ≤ (k : Int) := by omega
    go_wp2_with fail
    go_ret
    exact ⟨ret_bool HE.out, rfl⟩
/-! ### Twice -/
def dblL (l : List (List UInt8)) : Bool := !decide l.Nodup
theorem take_snocS {α : Type} {s : List α} {i : Nat} {c : α} (h : s[i]? = some c) : s.take (i + 1) = s.take i ++ [c] := by rw [List.take_add_one, h]; rfl
theorem nodup_snoc {l : List (List UInt8)} {x : List UInt8} : (l ++ [x]).Nodup ↔ l.Nodup ∧ x ∉ l := by
  rw [List.nodup_append]
  constructor
  · rintro ⟨h1, _, h3⟩
    exact ⟨h1, fun hm => h3 x hm x (List.mem_singleton_self _) rfl⟩
  · rintro ⟨h1, h2⟩
    refine ⟨h1, by simp, fun a ha b hb e => ?_⟩
    rw [List.mem_singleton.1 hb] at e
    exact h2 (e ▸ ha)
theorem nodup_take_of {l : List (List UInt8)} (h : l.Nodup) (i : Nat) : (l.take i).Nodup := h.sublist (List.take_sublist _ _)
theorem dbl_yes {l : List (List UInt8)} {i : Nat} {x : List UInt8} (h : l[i]? = some x) (hi : inL (l.take i) x = true) : dblL l = true := by
  unfold dblL
  have : ¬ l.Nodup := fun hn => by
    have h2 := nodup_take_of hn (i + 1)
    rw [take_snocS h, nodup_snoc] at h2
    exact h2.2 (of_decide_eq_true hi)
  simp [this]
theorem nodup_step {l : List (List UInt8)} {i : Nat} {x : List UInt8} (h : l[i]? = some x) (hn : (l.take i).Nodup) (hi : inL (l.take i) x = false) : (l.take (i + 1)).Nodup := by
  rw [take_snocS h, nodup_snoc]
  exact ⟨hn, of_decide_eq_false hi⟩
theorem dbl_no {l : List (List UInt8)} {i : Nat} (hi : l.length ≤ i) (h : (l.take i).Nodup) : dblL l = false := by
  rw [List.take_of_length_le hi] at h
  unfold dblL
  simp [h]
theorem Rd.takeS {w : World} {A : Option Addr} {l : List (List UInt8)} (h : Rd w A (l.map sv)) (i : Nat) : Rd w A ((l.take i).map sv) := fun hp => by
  rw [List.length_map, List.length_take] at hp
  obtain ⟨b, off, hA, hb, hc⟩ := h (by rw [List.length_map]; omega)
  refine ⟨b, off, hA, hb, fun j u hu => hc j u ?_⟩
  rw [List.map_take] at hu
  rw [List.getElem?_take] at hu
  split at hu
  · exact hu
  · cases hu
set_option maxRecDepth 100000 in
set_option maxHeartbeats 1000000 in
theorem twice_any {A : Option Addr} {n c : Nat} (l : List (List UInt8)) (w : World) (hr : Rd w A (l.map sv)) (hn : l.length = n) (hb : n ≤ 20) (hnc : n ≤ c) :
    Calls Try.prog 83 #[.slice A n c] w fun e w' => e = .returned (.bool (dblL l)) ∧ w = w' := by
  have HR := Lib.hid hr
  have HN := Lib.hid hn
  clear hr hn
  go_enter Try.func83, Try.ntmps83
  go_wp2_with fail
  go_loop [3, 4, 7] (fun _ _ i => ∃ k : Nat, k ≤ n ∧ i = .int .i64 (k : Int) ∧ Hid ((l.take k).Nodup)) (fun _ _ i => n - (intOf i).toNat)
  case atStart => exact ⟨0, by omega, rfl, Lib.hid (by simp)⟩
  case round =>
    obtain ⟨k, hk, rfl, hall⟩ := hrel
    by_cases hlt : k < n
    · obtain ⟨x, hx⟩ : ∃ x, l[k]? = some x := ⟨_, List.getElem?_eq_getElem (by rw [HN.out]; exact hlt)⟩
      have HC := Lib.hid (slContains_any (n := k) (c := c) (l.take k) x w (HR.out.takeS k) (by rw [List.length_take, HN.out]; omega) (by omega))
      obtain ⟨b, off, rfl, hc⟩ := HR.out.scell hx
      have HX := Lib.hid hx
      have HYS := Lib.hid (dbl_yes hx)
      have HNO := Lib.hid (nodup_step hx hall.out)
      have hkc : (k : Int) ≤ (c : Int) := by omega
      generalize (⟨x.toArray⟩ : ByteArray) = bx at hc HC
      clear hx
      cases hq : inL (l.take k) x with
      | true =>
        have HE := Lib.hid (HYS.out hq).symm
        rw [hq] at HC
        clear hq
        go_wp2_with fail
        refine HC.out.mono ?_
        rintro e w1 ⟨rfl, rfl⟩
        go_wp2_with fail
        go_ret
        exact ⟨ret_bool HE.out, rfl⟩
      | false =>
        have HE := Lib.hid (HNO.out hq)
        rw [hq] at HC
        clear hq
        go_wp2_with fail
        refine HC.out.mono ?_
        rintro e w1 ⟨rfl, rfl⟩
        go_wp2_with fail
        go_round
        case rel => exact ⟨k + 1, by omega, by go_num, HE⟩
        case measure => simp [intOf]; omega
    · have HE := Lib.hid (dbl_no (by rw [HN.out]; omega) hall.out).symm
      go_wp2_with fail
      go_ret
      exact ⟨ret_bool HE.out, rfl⟩
set_option maxRecDepth 100000 in
set_option maxHeartbeats 1000000 in
theorem doubled_any {A : Option Addr} {n c : Nat} (l : List (List UInt8)) (w : World) (hr : Rd w A (l.map sv)) (hn : l.length = n) (hb : n ≤ 20) (hnc : n ≤ c) :
    Calls Try.prog 88 #[.slice A n c] w fun e w' => e = .returned (.bool (dblL l)) ∧ w = w' := by
  have HR := Lib.hid hr
  have HN := Lib.hid hn
  clear hr hn
  go_enter Try.func88, Try.ntmps88
  go_wp2_with fail
  go_loop [3, 4, 7] (fun _ _ i => ∃ k : Nat, k ≤ n ∧ i = .int .i64 (k : Int) ∧ Hid ((l.take k).Nodup)) (fun _ _ i => n - (intOf i).toNat)
  case atStart => exact ⟨0, by omega, rfl, Lib.hid (by simp)⟩
  case round =>
    obtain ⟨k, hk, rfl, hall⟩ := hrel
    by_cases hlt : k < n
    · obtain ⟨x, hx⟩ : ∃ x, l[k]? = some x := ⟨_, List.getElem?_eq_getElem (by rw [HN.out]; exact hlt)⟩
      have HC := Lib.hid (place_any (n := k) (c := c) (l.take k) x w (HR.out.takeS k) (by rw [List.length_take, HN.out]; omega) (by omega))
      unfold sv at HC
      obtain ⟨b, off, rfl, hc⟩ := HR.out.scell hx
      have HX := Lib.hid hx
      have HYS := Lib.hid (dbl_yes hx)
      have HNO := Lib.hid (nodup_step hx hall.out)
      have hkc : (k : Int) ≤ (c : Int) := by omega
      generalize (⟨x.toArray⟩ : ByteArray) = bx at hc HC
      clear hx
      go_wp2_with fail
      refine HC.out.mono ?_
      rintro e w1 ⟨i, rfl, rfl, hi⟩
      rcases hi with ⟨rfl, hno⟩ | ⟨q, rfl, hq⟩
      · have HE := Lib.hid (HNO.out (by unfold inL; simp [hno]))
        clear hno
        go_wp2_with fail
        go_round
        case rel => exact ⟨k + 1, by omega, by go_num, HE⟩
        case measure => simp [intOf]; omega
      · have HE := Lib.hid (HYS.out (by unfold inL; simp [List.mem_of_getElem? hq])).symm
        have k0 : (0 : Int) ≤ (q : Int) := by omega
        clear hq
        go_wp2_with fail
        go_ret
        exact ⟨ret_bool HE.out, rfl⟩
    · have HE := Lib.hid (dbl_no (by rw [HN.out]; omega) hall.out).symm
      go_wp2_with fail
      go_ret
      exact ⟨ret_bool HE.out, rfl⟩
/-! ### Lists, one behind the other -/
/-- A slice that lies somewhere: where, its room, its texts. -/
abbrev PartT := Option Addr × Nat × List (List UInt8)
def partV (x : PartT) : Value := .slice x.1 x.2.2.length x.2.1
def catP (L : List PartT) : List (List UInt8) := L.flatMap (·.2.2)
def PartsIn (w : World) (L : List PartT) : Prop := ∀ x ∈ L, Rd w x.1 (x.2.2.map sv)
theorem PartsIn.below {w w' : World} {L : List PartT} (h : PartsIn w L) (hb : Below w.heap.size w w') : PartsIn w' L := fun x hx => (h x hx).below hb
theorem catP_snoc {L : List PartT} {k : Nat} {x : PartT} (h : L[k]? = some x) : catP (L.take (k + 1)) = catP (L.take k) ++ x.2.2 := by
  rw [take_snocS h]; unfold catP; rw [List.flatMap_append]; simp
theorem catP_le (L : List PartT) (k : Nat) : (catP (L.take k)).length ≤ (catP L).length := by
  conv => rhs; rw [← List.take_append_drop k L]
  unfold catP
  rw [List.flatMap_append, List.length_append]
  omega
def CatN (w : World) (L : List PartT) (k : Nat) (v : Value) (wr : World) : Prop :=
  ∃ A c, v = .slice A (catP (L.take k)).length c ∧ wr.ownsRow w.heap.size 9 1 (.slice A (catP (L.take k)).length c) (catP (L.take k)).length ((catP (L.take k)).map sv) ∧ Below w.heap.size w wr
set_option maxRecDepth 100000 in
set_option maxHeartbeats 2000000 in
theorem concatN_any {b n c : Nat} (L : List PartT) (w : World) (hb : b < w.heap.size) (hn : L.length = n) (hnb : n ≤ 1000)
    (hc : ∀ (j : Nat) (x : PartT), L[j]? = some x → w.cell? ⟨b, j, none⟩ = some (partV x)) (hI : PartsIn w L) (hN : (catP L).length ≤ 1099511627776) :
    Calls Try.prog 43 #[.slice (some ⟨b, 0, none⟩) n c] w fun e w' =>
      ∃ A c, e = .returned (.slice A (catP L).length c) ∧ w'.ownsRow w.heap.size 9 1 (.slice A (catP L).length c) (catP L).length ((catP L).map sv) ∧ Below w.heap.size w w' := by
  have HC := Lib.hid hc
  have HI := Lib.hid hI
  have HN := Lib.hid hn
  have HG := Lib.hid (grow_any (catP L).length w hN)
  have HLE := Lib.hid (catP_le L)
  have HB := Lib.hid hb
  have HCN := Lib.hid hN
  clear hc hI hn hN
  go_enter Try.func43, Try.ntmps43
  go_wp2_with fail
  go_loop [3, 5, 11] (fun s _ i => ∃ k : Nat, k ≤ n ∧ i = .int .i64 (k : Int) ∧ s = .int .i64 ((catP (L.take k)).length : Int)) (fun _ _ i => n - (intOf i).toNat)
  case atStart => exact ⟨0, by omega, rfl, by simp [catP]⟩
  case round =>
    obtain ⟨k, hk, rfl, rfl⟩ := hrel
    by_cases hlt : k < n
    · obtain ⟨x, hx⟩ : ∃ x, L[k]? = some x := ⟨_, List.getElem?_eq_getElem (by rw [HN.out]; exact hlt)⟩
      have hcx := HC.out k x hx
      obtain ⟨Ax, cx, lx⟩ := x
      have hsum : (catP (L.take (k + 1))).length = (catP (L.take k)).length + lx.length := by rw [catP_snoc hx, List.length_append]
      have h1 := HLE.out (k + 1)
      have h2 := HCN.out
      simp only [partV] at hcx
      have HSUM : Hid (((catP (L.take k)).length : Int) + (lx.length : Int) = ((catP (L.take (k + 1))).length : Int)) := Lib.hid (by rw [hsum]; omega)
      have HM : Hid ((catP (L.take k)).length + lx.length ≤ 1099511627776) := Lib.hid (by omega)
      clear hx hsum h1 h2
      generalize (catP (L.take k)).length = m at *
      generalize lx.length = q at *
      have hm1 := HM.out
      have hk1 : (k : Int) < (n : Int) := by omega
      go_wp2_with fail
      go_round
      case rel => exact ⟨k + 1, by omega, by go_num, congrArg (Value.int .i64) HSUM.out⟩
      case measure => simp [intOf]; omega
    · obtain rfl : k = n := by omega
      have HT : Hid (L.take k = L) := Lib.hid (List.take_of_length_le (by rw [HN.out]; exact Nat.le_refl _))
      rw [HT.out]
      go_wp2_with fail
      refine HG.out.mono ?_
      rintro e w1 ⟨A0, c0, rfl, hown, hb1⟩
      have hrel0 : CatN w L 0 (.slice A0 0 c0) w1 := ⟨A0, c0, rfl, hown, hb1⟩
      have HR0 := Lib.hid hrel0
      clear hown hb1 hrel0
      go_wp2_with fail
      go_loopw [6, 8, 27] (fun v _ i wr => ∃ j : Nat, j ≤ k ∧ i = .int .i64 (j : Int) ∧ CatN w L j v wr) (fun _ _ i _ => k - (intOf i).toNat)
      case atStart => exact ⟨0, by omega, rfl, HR0.out⟩
      case round =>
        obtain ⟨j, hj, rfl, A, c, rfl, hown, hbl⟩ := hrel
        by_cases hlt : j < k
        · obtain ⟨x, hx⟩ : ∃ x, L[j]? = some x := ⟨_, List.getElem?_eq_getElem (by rw [HN.out]; exact hlt)⟩
          have hcx : wr.cell? ⟨b, j, none⟩ = some (partV x) := (hbl.cell (p := ⟨b, j, none⟩) HB.out).trans (HC.out j x hx)
          have hrx := (HI.out x (List.mem_of_getElem? hx)).below hbl
          have hsn := catP_snoc hx
          have h1 := HLE.out (j + 1)
          have h2 := HCN.out
          obtain ⟨Ax, cx, lx⟩ := x
          simp only [partV] at hcx hrx hsn
          have hj1 : (j : Int) < (k : Int) := by omega
          have HO := Lib.hid hown
          have HB2 := Lib.hid hbl
          have HRD := Lib.hid hrx
          have HSN := Lib.hid hsn
          have hlen : (catP (L.take j)).length + lx.length ≤ 1099511627776 := by rw [hsn, List.length_append] at h1; omega
          have hsz := hbl.size
          clear hown hbl hrx hsn h1 h2 hx
          generalize hX : catP (L.take j) = X at *
          generalize hm : X.length = m at *
          generalize hq : lx.length = q at *
          have HX := Lib.hid hX
          have HMq := Lib.hid hm
          have HQq := Lib.hid hq
          clear hX hm hq
          go_wp2_with (at_builtin; refine wpList_cat elStr wr _ _ w.heap.size A m c (X.map sv) Ax q cx (lx.map sv) HO.out HRD.out (by rw [List.length_map]; exact HQq.out) (sv_one lx) hsz (by omega) (by omega) rfl rfl rfl rfl ?_; intro A' c' w5 hown5 hb5)
          rw [← List.map_append] at hown5
          have HO5 := Lib.hid hown5
          have HB5 := Lib.hid (HB2.out.trans hb5)
          clear hown5 hb5 hcx hsz
          go_roundw
          case rel =>
            refine ⟨j + 1, by omega, by go_num, A', c', ?_, ?_, HB5.out⟩
            · rw [HSN.out, List.length_append, HMq.out, HQq.out]
            · rw [HSN.out, List.length_append, HMq.out, HQq.out]; exact HO5.out
          case measure => simp [intOf]; omega
        · obtain rfl : j = k := by omega
          rw [HT.out] at hown ⊢
          have HO := Lib.hid hown
          have HB2 := Lib.hid hbl
          clear hown hbl
          go_wp2_with fail
          go_ret
          exact ⟨A, c, rfl, HO.out, HB2.out⟩
end Go.Proofs.Ytoandhhkmkgmaaa
