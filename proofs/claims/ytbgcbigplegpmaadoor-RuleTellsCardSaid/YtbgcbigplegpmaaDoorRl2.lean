/- Contracts: rule.Check, the reference's RuleFault. Lists and texts below 2^63; a slice's length within its room. -/
import Derived.Test.YtbgcbigplegpmaaDoorRl1
namespace Go.Proofs.YtbgcbigplegpmaaDoor
open Go.RowKit

abbrev RuleT := List (List UInt8) × List (List UInt8)
def rlV (A1 : Option Addr) (n1 c1 : Nat) (A2 : Option Addr) (n2 c2 : Nat) : Value := .agg #[.slice A1 n1 c1, .slice A2 n2 c2]
structure RlIn (A1 : Option Addr) (n1 c1 : Nat) (A2 : Option Addr) (n2 c2 : Nat) (r : RuleT) (w : World) : Prop where
  t : Rd w A1 (r.1.map sv)
  n : Rd w A2 (r.2.map sv)
  tl : r.1.length = n1
  nl : r.2.length = n2
  tb : n1 ≤ 9223372036854775807
  nb : n2 ≤ 9223372036854775807
  tc : n1 ≤ c1
  nc : n2 ≤ c2
  ts : StrsOk r.1
  ns : StrsOk r.2
theorem RlIn.below {A1 A2 : Option Addr} {n1 c1 n2 c2 : Nat} {r : RuleT} {w w' : World} (h : RlIn A1 n1 c1 A2 n2 c2 r w) (hb : Below w.heap.size w w') : RlIn A1 n1 c1 A2 n2 c2 r w' :=
  ⟨h.t.below hb, h.n.below hb, h.tl, h.nl, h.tb, h.nb, h.tc, h.nc, h.ts, h.ns⟩
def rlE (r : RuleT) : Nat := if 20 < r.1.length ∨ 20 < r.2.length then 2 else if r.1.length = 0 ∨ (r.1 ++ r.2).all goodName = false then 3 else if dblL r.1 = true ∨ dblL r.2 = true then 6 else 0
theorem rlE_2 {r : RuleT} (h : 20 < r.1.length ∨ 20 < r.2.length) : rlE r = 2 := by unfold rlE; rw [if_pos h]
theorem rlE_3 {r : RuleT} (h1 : ¬ 20 < r.1.length) (h2 : ¬ 20 < r.2.length) (h : r.1.length = 0 ∨ (r.1 ++ r.2).all goodName = false) : rlE r = 3 := by
  unfold rlE; rw [if_neg (fun e => e.elim h1 h2), if_pos h]
theorem rlE_6 {r : RuleT} (h1 : ¬ 20 < r.1.length) (h2 : ¬ 20 < r.2.length) (h3 : ¬ r.1.length = 0) (h4 : (r.1 ++ r.2).all goodName = true) (h : dblL r.1 = true ∨ dblL r.2 = true) : rlE r = 6 := by
  unfold rlE; rw [if_neg (fun e => e.elim h1 h2), if_neg (fun e => e.elim h3 (fun e => by rw [h4] at e; cases e)), if_pos h]
theorem rlE_0 {r : RuleT} (h1 : ¬ 20 < r.1.length) (h2 : ¬ 20 < r.2.length) (h3 : ¬ r.1.length = 0) (h4 : (r.1 ++ r.2).all goodName = true) (h5 : dblL r.1 = false) (h6 : dblL r.2 = false) : rlE r = 0 := by
  unfold rlE; rw [if_neg (fun e => e.elim h1 h2), if_neg (fun e => e.elim h3 (fun e => by rw [h4] at e; cases e)), if_neg (fun e => e.elim (fun e => by rw [h5] at e; cases e) (fun e => by rw [h6] at e; cases e))]
theorem rlE_ok {r : RuleT} (h : rlE r = 0) : r.1.length ≤ 20 ∧ r.2.length ≤ 20 ∧ 0 < r.1.length ∧ r.1.all goodName = true ∧ r.2.all goodName = true ∧ r.1.Nodup ∧ r.2.Nodup := by
  unfold rlE at h
  split at h
  · cases h
  rename_i h1
  split at h
  · cases h
  rename_i h2
  split at h
  · cases h
  rename_i h3
  have h4 : (r.1 ++ r.2).all goodName = true := by
    cases hq : (r.1 ++ r.2).all goodName with
    | true => rfl
    | false => exact absurd (.inr hq) h2
  rw [List.all_append, Bool.and_eq_true] at h4
  refine ⟨by omega, by omega, by omega, h4.1, h4.2, ?_, ?_⟩
  · by_cases hq : r.1.Nodup
    · exact hq
    · exact absurd (.inl (by unfold dblL; simp [hq])) h3
  · by_cases hq : r.2.Nodup
    · exact hq
    · exact absurd (.inr (by unfold dblL; simp [hq])) h3
theorem good_len {s : List UInt8} (h : goodName s = true) : s.length ≤ 40 := by
  unfold goodName at h
  simp at h
  exact h.2.2
/-- Two cells in a block of their own. -/
structure BoxTwo (B : Nat) (v1 v2 : Value) (w : World) : Prop where
  c1 : w.cell? ⟨B, 0, none⟩ = some v1
  c2 : w.cell? ⟨B, 1, none⟩ = some v2
theorem cell_kept {w w' : World} {B o : Nat} {v : Value} (h : w.cell? ⟨B, o, none⟩ = some v) (hb : Below w.heap.size w w') : w'.cell? ⟨B, o, none⟩ = some v := (hb.cell (p := ⟨B, o, none⟩) (lt_of_cell' h)).trans h
theorem BoxTwo.below {B : Nat} {v1 v2 : Value} {w w' : World} (h : BoxTwo B v1 v2 w) (hb : Below w.heap.size w w') : BoxTwo B v1 v2 w' := ⟨cell_kept h.c1 hb, cell_kept h.c2 hb⟩
theorem box_two (w : World) (x1 x2 : Value) (t : TypeId) : BoxTwo w.heap.size x1 x2 (w.alloc (.cells #[x1, x2] t)) ∧ Below w.heap.size w (w.alloc (.cells #[x1, x2] t)) := by
  refine ⟨⟨?_, ?_⟩, below_new (Below.refl _ _) _⟩ <;> (rw [World.cell?_alloc_at _ _ _ _ rfl]; rfl)
def RlPost (v : Int) (w : World) (e : Ending) (w' : World) : Prop := e = .returned (.int .i64 v) ∧ Below w.heap.size w w'
section
variable {A1 A2 : Option Addr} {n1 c1 n2 c2 : Nat} {r : RuleT} (w : World) (hr : RlIn A1 n1 c1 A2 n2 c2 r w)
include hr
set_option maxRecDepth 100000 in
set_option maxHeartbeats 4000000 in
theorem rlCheck_any : Calls Tryd.prog 10 #[rlV A1 n1 c1 A2 n2 c2] w (RlPost (rlE r : Nat) w) := by
  have HR := Lib.hid hr
  have hnb1 := hr.tb
  have hnb2 := hr.nb
  have HL1 := Lib.hid hr.tl
  have HL2 := Lib.hid hr.nl
  obtain ⟨x, y⟩ := box_two w (.slice A1 n1 c1) (.slice A2 n2 c2) 24
  have X := Lib.hid x
  have Y := Lib.hid y
  clear hr y
  unfold rlV
  go_enter Tryd.func10, Tryd.ntmps10
  go_upto_region 1 with fail
  generalize w.alloc (.cells #[.slice A1 n1 c1, .slice A2 n2 c2] 24) = wb at *
  obtain ⟨x1, x2⟩ := x
  by_cases h1 : 20 < n1
  · have HE : Hid ((2 : Int) = (rlE r : Nat)) := Lib.hid (by rw [rlE_2 (.inl (by rw [HL1.out]; exact h1))]; rfl)
    have h1' : (20 : Int) < (n1 : Int) := by omega
    go_wp2_with fail
    go_ret
    exact ⟨ret_int HE.out, Y.out⟩
  have h1' : ¬ (20 : Int) < (n1 : Int) := by omega
  by_cases h2 : 20 < n2
  · have HE : Hid ((2 : Int) = (rlE r : Nat)) := Lib.hid (by rw [rlE_2 (.inr (by rw [HL2.out]; exact h2))]; rfl)
    have h2' : (20 : Int) < (n2 : Int) := by omega
    go_wp2_with fail
    go_ret
    exact ⟨ret_int HE.out, Y.out⟩
  have h2' : ¬ (20 : Int) < (n2 : Int) := by omega
  have H1 := Lib.hid h1
  have H2 := Lib.hid h2
  clear h1 h2
  by_cases h3 : n1 = 0
  · have HE : Hid ((3 : Int) = (rlE r : Nat)) := Lib.hid (by rw [rlE_3 (by rw [HL1.out]; exact H1.out) (by rw [HL2.out]; exact H2.out) (.inl (by rw [HL1.out]; exact h3))]; rfl)
    have h3' : ((n1 : Int) == 0) = true := by simp; omega
    clear h3
    go_wp2_with fail
    go_ret
    exact ⟨ret_int HE.out, Y.out⟩
  have h3' : ((n1 : Int) == 0) = false := by simp; omega
  have H3 := Lib.hid h3
  clear h3
  have hh1 := H1.out
  have hh2 := H2.out
  -- the two lists, one behind the other
  have HB2 : Hid (Below wb.heap.size wb (wb.alloc (.cells #[.slice A1 n1 c1, .slice A2 n2 c2] 22))) := Lib.hid (below_new (Below.refl _ _) _)
  have HCAT : Hid (catP [(A1, c1, r.1), (A2, c2, r.2)] = r.1 ++ r.2) := Lib.hid (by simp [catP])
  have HLEN : Hid ((r.1 ++ r.2).length = n1 + n2) := Lib.hid (by rw [List.length_append, HL1.out, HL2.out])
  have HBW := Lib.hid (below_then Y.out HB2.out)
  have HC := Lib.hid (concatN_any (n := 2) (c := 2) (b := wb.heap.size) [(A1, c1, r.1), (A2, c2, r.2)] (wb.alloc (.cells #[.slice A1 n1 c1, .slice A2 n2 c2] 22)) (by simp) rfl (by decide)
    (fun j x hx => by
      have hj := (List.getElem?_eq_some_iff.1 hx).1
      simp only [List.length_cons, List.length_nil] at hj
      rcases (by omega : j = 0 ∨ j = 1) with rfl | rfl
      · injection hx with hx; subst hx
        rw [World.cell?_alloc_at _ _ _ _ rfl, partV, HL1.out]; rfl
      · injection hx with hx; subst hx
        rw [World.cell?_alloc_at _ _ _ _ rfl, partV, HL2.out]; rfl)
    (fun x hx => by
      rcases List.mem_cons.1 hx with rfl | hx
      · exact HR.out.t.below HBW.out
      · rw [List.mem_singleton.1 hx]; exact HR.out.n.below HBW.out)
    (by rw [HCAT.out, HLEN.out]; omega))
  rw [HCAT.out, HLEN.out] at HC
  clear hh1 hh2
  go_wp2_with fail
  refine HC.out.mono ?_
  rintro e wc ⟨A, c, rfl, hown, hbc⟩
  have HRD := Lib.hid (Rd.of_own hown)
  have HBC := Lib.hid (below_then HBW.out hbc)
  have HXC := Lib.hid ((X.out.below HB2.out).below hbc)
  have HST : Hid (StrsOk (r.1 ++ r.2)) := Lib.hid (fun s hs => (List.mem_append.1 hs).elim (HR.out.ts s) (HR.out.ns s))
  clear hown hbc x1 x2 HB2 HC HCAT
  generalize hl : r.1 ++ r.2 = l at *
  have HLL := Lib.hid hl
  clear hl
  go_wp2_with fail
  go_loop [4, 5, 29] (fun _ _ i => ∃ k : Nat, k ≤ n1 + n2 ∧ i = .int .i64 (k : Int) ∧ Hid (∀ (j : Nat) (s : List UInt8), j < k → l[j]? = some s → goodName s = true)) (fun _ _ i => n1 + n2 - (intOf i).toNat)
  case atStart => exact ⟨0, by omega, rfl, Lib.hid (fun _ _ hj => absurd hj (Nat.not_lt_zero _))⟩
  case round =>
    obtain ⟨k, hk, rfl, hall⟩ := hrel
    by_cases hlt : k < n1 + n2
    · obtain ⟨x, hx⟩ : ∃ x, l[k]? = some x := ⟨_, List.getElem?_eq_getElem (by rw [HLEN.out]; exact hlt)⟩
      obtain ⟨b, off, rfl, hc⟩ := HRD.out.scell hx
      have HX := Lib.hid hx
      have HC := Lib.hid (nmCheck_any x wc (HST.out x (List.mem_of_getElem? hx)))
      unfold sv nameErr at HC
      have hkI : (k : Int) < (n1 : Int) + (n2 : Int) := by omega
      clear hx
      cases hq : goodName x with
      | true =>
        rw [hq] at HC
        have HQ := Lib.hid hq
        clear hq
        go_wp2_with fail
        refine HC.out.mono ?_
        rintro e w' ⟨rfl, rfl⟩
        go_wp2_with fail
        go_round
        case rel => exact ⟨k + 1, by omega, by go_num, Lib.hid (fun j s hj hs => by
          rcases Nat.lt_or_ge j k with h | h
          · exact hall.out j s h hs
          · obtain rfl : j = k := by omega
            rw [HX.out] at hs
            injection hs with hs
            rw [← hs]; exact HQ.out)⟩
        case measure => simp [intOf]; omega
      | false =>
        rw [hq] at HC
        have HE : Hid ((3 : Int) = (rlE r : Nat)) := Lib.hid (by rw [rlE_3 (by rw [HL1.out]; exact H1.out) (by rw [HL2.out]; exact H2.out) (.inr (by rw [HLL.out]; exact goods_no HX.out hq))]; rfl)
        clear hq
        go_wp2_with fail
        refine HC.out.mono ?_
        rintro e w' ⟨rfl, rfl⟩
        go_wp2_with fail
        go_ret
        exact ⟨ret_int HE.out, HBC.out⟩
    · have HG : Hid ((r.1 ++ r.2).all goodName = true) := Lib.hid (by rw [HLL.out]; exact goods_yes (fun j s hs => hall.out j s (by have := (List.getElem?_eq_some_iff.1 hs).1; have := HLEN.out; omega) hs))
      have HT1 := Lib.hid (twice_any (c := c1) r.1 wc (HR.out.t.below HBC.out) HL1.out (by have := H1.out; omega) HR.out.tc)
      have HT2 := Lib.hid (twice_any (c := c2) r.2 wc (HR.out.n.below HBC.out) HL2.out (by have := H2.out; omega) HR.out.nc)
      have HE6 := Lib.hid (fun h => rlE_6 (r := r) (by rw [HL1.out]; exact H1.out) (by rw [HL2.out]; exact H2.out) (by rw [HL1.out]; exact H3.out) HG.out h)
      have HE0 := Lib.hid (fun h h' => rlE_0 (r := r) (by rw [HL1.out]; exact H1.out) (by rw [HL2.out]; exact H2.out) (by rw [HL1.out]; exact H3.out) HG.out h h')
      have hkI : ¬ (k : Int) < (n1 : Int) + (n2 : Int) := by omega
      obtain ⟨x1, x2⟩ := HXC.out
      cases hd1 : dblL r.1 with
      | true =>
        have HE : Hid ((6 : Int) = (rlE r : Nat)) := Lib.hid (by rw [HE6.out (.inl hd1)]; rfl)
        rw [hd1] at HT1
        clear hd1
        go_wp2_with fail
        refine HT1.out.mono ?_
        rintro e w' ⟨rfl, rfl⟩
        go_wp2_with fail
        go_ret
        exact ⟨ret_int HE.out, HBC.out⟩
      | false =>
        rw [hd1] at HT1
        cases hd2 : dblL r.2 with
        | true =>
          have HE : Hid ((6 : Int) = (rlE r : Nat)) := Lib.hid (by rw [HE6.out (.inr hd2)]; rfl)
          rw [hd2] at HT2
          clear hd1 hd2
          go_wp2_with fail
          refine HT1.out.mono ?_
          rintro e w' ⟨rfl, rfl⟩
          go_wp2_with fail
          refine HT2.out.mono ?_
          rintro e w' ⟨rfl, rfl⟩
          go_wp2_with fail
          go_ret
          exact ⟨ret_int HE.out, HBC.out⟩
        | false =>
          have HE : Hid ((0 : Int) = (rlE r : Nat)) := Lib.hid (by rw [HE0.out hd1 hd2]; rfl)
          rw [hd2] at HT2
          clear hd1 hd2
          go_wp2_with fail
          refine HT1.out.mono ?_
          rintro e w' ⟨rfl, rfl⟩
          go_wp2_with fail
          refine HT2.out.mono ?_
          rintro e w' ⟨rfl, rfl⟩
          go_wp2_with fail
          go_ret
          exact ⟨ret_int HE.out, HBC.out⟩
set_option maxRecDepth 100000 in
set_option maxHeartbeats 4000000 in
theorem rFault_any : Calls Tryd.prog 9 #[rlV A1 n1 c1 A2 n2 c2] w (RlPost (rlE r : Nat) w) := by
  have HR := Lib.hid hr
  have hnb1 := hr.tb
  have hnb2 := hr.nb
  have HL1 := Lib.hid hr.tl
  have HL2 := Lib.hid hr.nl
  obtain ⟨x, y⟩ := box_two w (.slice A1 n1 c1) (.slice A2 n2 c2) 24
  have X := Lib.hid x
  have Y := Lib.hid y
  clear hr y
  unfold rlV
  go_enter Tryd.func9, Tryd.ntmps9
  go_upto_region 1 with fail
  generalize w.alloc (.cells #[.slice A1 n1 c1, .slice A2 n2 c2] 24) = wb at *
  obtain ⟨x1, x2⟩ := x
  by_cases h1 : 20 < n1
  · have HE : Hid ((2 : Int) = (rlE r : Nat)) := Lib.hid (by rw [rlE_2 (.inl (by rw [HL1.out]; exact h1))]; rfl)
    have h1' : (20 : Int) < (n1 : Int) := by omega
    go_wp2_with fail
    go_ret
    exact ⟨ret_int HE.out, Y.out⟩
  have h1' : ¬ (20 : Int) < (n1 : Int) := by omega
  by_cases h2 : 20 < n2
  · have HE : Hid ((2 : Int) = (rlE r : Nat)) := Lib.hid (by rw [rlE_2 (.inr (by rw [HL2.out]; exact h2))]; rfl)
    have h2' : (20 : Int) < (n2 : Int) := by omega
    go_wp2_with fail
    go_ret
    exact ⟨ret_int HE.out, Y.out⟩
  have h2' : ¬ (20 : Int) < (n2 : Int) := by omega
  have H1 := Lib.hid h1
  have H2 := Lib.hid h2
  clear h1 h2
  have HE3 := Lib.hid (fun h => rlE_3 (r := r) (by rw [HL1.out]; exact H1.out) (by rw [HL2.out]; exact H2.out) h)
  by_cases h3 : n1 = 0
  · have HE : Hid ((3 : Int) = (rlE r : Nat)) := Lib.hid (by rw [HE3.out (.inl (by rw [HL1.out]; exact h3))]; rfl)
    have h3' : ((n1 : Int) == 0) = true := by simp; omega
    clear h3
    go_wp2_with fail
    go_ret
    exact ⟨ret_int HE.out, Y.out⟩
  have h3' : ((n1 : Int) == 0) = false := by simp; omega
  have H3 := Lib.hid h3
  clear h3
  have HG1 := Lib.hid (goodNames_any (c := c1) r.1 wb (HR.out.t.below Y.out) HL1.out hnb1 HR.out.ts)
  have HG2 := Lib.hid (goodNames_any (c := c2) r.2 wb (HR.out.n.below Y.out) HL2.out hnb2 HR.out.ns)
  cases hg1 : r.1.all goodName with
  | false =>
    have HE : Hid ((3 : Int) = (rlE r : Nat)) := Lib.hid (by rw [HE3.out (.inr (by rw [List.all_append, hg1]; rfl))]; rfl)
    rw [hg1] at HG1
    clear hg1
    go_wp2_with fail
    refine HG1.out.mono ?_
    rintro e w' ⟨rfl, rfl⟩
    go_wp2_with fail
    go_ret
    exact ⟨ret_int HE.out, Y.out⟩
  | true =>
  rw [hg1] at HG1
  cases hg2 : r.2.all goodName with
  | false =>
    have HE : Hid ((3 : Int) = (rlE r : Nat)) := Lib.hid (by rw [HE3.out (.inr (by rw [List.all_append, hg1, hg2]; rfl))]; rfl)
    rw [hg2] at HG2
    clear hg1 hg2
    go_wp2_with fail
    refine HG1.out.mono ?_
    rintro e w' ⟨rfl, rfl⟩
    go_wp2_with fail
    refine HG2.out.mono ?_
    rintro e w' ⟨rfl, rfl⟩
    go_wp2_with fail
    go_ret
    exact ⟨ret_int HE.out, Y.out⟩
  | true =>
  rw [hg2] at HG2
  have HG : Hid ((r.1 ++ r.2).all goodName = true) := Lib.hid (by rw [List.all_append, hg1, hg2]; rfl)
  clear hg1 hg2
  have HT1 := Lib.hid (doubled_any (c := c1) r.1 wb (HR.out.t.below Y.out) HL1.out (by have := H1.out; omega) HR.out.tc)
  have HT2 := Lib.hid (doubled_any (c := c2) r.2 wb (HR.out.n.below Y.out) HL2.out (by have := H2.out; omega) HR.out.nc)
  have HE6 := Lib.hid (fun h => rlE_6 (r := r) (by rw [HL1.out]; exact H1.out) (by rw [HL2.out]; exact H2.out) (by rw [HL1.out]; exact H3.out) HG.out h)
  have HE0 := Lib.hid (fun h h' => rlE_0 (r := r) (by rw [HL1.out]; exact H1.out) (by rw [HL2.out]; exact H2.out) (by rw [HL1.out]; exact H3.out) HG.out h h')
  go_wp2_with fail
  refine HG1.out.mono ?_
  rintro e w' ⟨rfl, rfl⟩
  go_wp2_with fail
  refine HG2.out.mono ?_
  rintro e w' ⟨rfl, rfl⟩
  cases hd1 : dblL r.1 with
  | true =>
    have HE : Hid ((6 : Int) = (rlE r : Nat)) := Lib.hid (by rw [HE6.out (.inl hd1)]; rfl)
    rw [hd1] at HT1
    clear hd1
    go_wp2_with fail
    refine HT1.out.mono ?_
    rintro e w' ⟨rfl, rfl⟩
    go_wp2_with fail
    go_ret
    exact ⟨ret_int HE.out, Y.out⟩
  | false =>
  rw [hd1] at HT1
  cases hd2 : dblL r.2 with
  | true =>
    have HE : Hid ((6 : Int) = (rlE r : Nat)) := Lib.hid (by rw [HE6.out (.inr hd2)]; rfl)
    rw [hd2] at HT2
    clear hd1 hd2
    go_wp2_with fail
    refine HT1.out.mono ?_
    rintro e w' ⟨rfl, rfl⟩
    go_wp2_with fail
    refine HT2.out.mono ?_
    rintro e w' ⟨rfl, rfl⟩
    go_wp2_with fail
    go_ret
    exact ⟨ret_int HE.out, Y.out⟩
  | false =>
    have HE : Hid ((0 : Int) = (rlE r : Nat)) := Lib.hid (by rw [HE0.out hd1 hd2]; rfl)
    rw [hd2] at HT2
    clear hd1 hd2
    go_wp2_with fail
    refine HT1.out.mono ?_
    rintro e w' ⟨rfl, rfl⟩
    go_wp2_with fail
    refine HT2.out.mono ?_
    rintro e w' ⟨rfl, rfl⟩
    go_wp2_with fail
    go_ret
    exact ⟨ret_int HE.out, Y.out⟩
end
end Go.Proofs.YtbgcbigplegpmaaDoor
