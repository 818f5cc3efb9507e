/- Contracts of the reference: Steps, RowsFault. Rows are below 2^64. -/
import Derived.Test.YtiechbaknolimaaDoorReach2
namespace Go.Proofs.YtiechbaknolimaaDoor
open Go.RowKit

set_option maxHeartbeats 400000 in
theorem rSteps_any {A : Option Addr} {n c : Nat} (l : List Nat) (s : Nat) (d : Int) (w : World) (h1 : Rd w A (l.map uv)) (hl : l.length = n) (hg : Good l) (hs : InRows l s)
    (hd : -1 ≤ d) (hd2 : d ≤ 9223372036854775807) :
    Calls Tryd.prog 25 #[.slice A n c, .int .u64 s, .int .i64 d] w fun e w' => e = .returned (.int .u64 (reachD l s d : Nat)) ∧ w = w' := by
  have hn : n ≤ 64 := by have := hg.1; omega
  have HL := Lib.hid hl
  have HG := Lib.hid hg
  have HS := Lib.hid hs
  have H1 := Lib.hid h1
  have HLEN := Lib.hid (fun k => nums_len (iterR l s k))
  clear hl hg hs h1
  go_enter Tryd.func25, Tryd.ntmps25
  go_wp2
  go_loop [1, 7, 8, 9, 18] (fun t q _ _ _ => ∃ k : Nat, k ≤ 65 ∧ t = .int .u64 (iterR l s k : Nat) ∧ q = .int .i64 k ∧ (d < 0 ∨ (k : Int) ≤ d) ∧ k ≤ (nums (iterR l s k)).length) (fun _ q _ _ _ => 65 - (intOf q).toNat)
  case atStart => exact ⟨0, by omega, rfl, rfl, by omega, by omega⟩
  case round =>
    obtain ⟨k, hk, rfl, rfl, hkd, hgr⟩ := hrel
    have hk64 : k ≤ 64 := by have := HLEN.out k; omega
    have HGR := Lib.hid hgr
    clear hgr
    by_cases hdk : d = k
    · have HE : Hid (reachD l s d = iterR l s k) := Lib.hid (by rw [hdk]; exact reachD_all hk)
      have hz : (((k : Int)) != d) = false := by simp [hdk]
      clear hdk
      go_wp2
      go_ret
      exact ⟨ret_int (by rw [HE.out]), rfl⟩
    · have hz : (((k : Int)) != d) = true := by simp; omega
      have HB := Lib.hid ((iterR_in HG.out HS.out k).b64 HG.out)
      have HNX : Hid (orRows l (iterR l s k) (iterR l s k) n = iterR l s (k + 1)) := Lib.hid (by rw [← HL.out]; rfl)
      have HSTOP := Lib.hid (fun h => reachD_stop (l := l) (s := s) (d := d) (k := k) h hk hkd)
      have HGROW := Lib.hid (fun h => iterR_grows HG.out HS.out k h)
      have HB2 := Lib.hid ((iterR_in HG.out HS.out (k + 1)).b64 HG.out)
      generalize iterR l s k = S at *
      go_wp2
      go_loop [8, 9, 18] (fun t _ i => ∃ j : Nat, j ≤ n ∧ i = .int .i64 j ∧ t = .int .u64 (orRows l S S j : Nat)) (fun _ _ i => n - (intOf i).toNat)
      case atStart => exact ⟨0, by omega, rfl, rfl⟩
      case round =>
        obtain ⟨j, hj, rfl, rfl⟩ := hrel
        by_cases hlt : j < n
        · have hjl : j < l.length := by rw [HL.out]; exact hlt
          obtain ⟨b, o, rfl, e1⟩ := H1.out.set hjl
          have e2 := u64_or_nat (orRows l S S j) (rowAt l j) (orRows_b64 HG.out.b64 HB.out j) (HG.out.b64 j)
          have HO : Hid (orRows l S S (j + 1) = if S.testBit j then orRows l S S j ||| rowAt l j else orRows l S S j) := Lib.hid rfl
          clear hjl
          cases hb : S.testBit j with
          | true =>
            rw [hb] at HO
            go_wp2_with (go_at_call 41; refine (in_nat _ HB.out _ _).mono ?_; rintro e w' ⟨rfl, rfl⟩)
            go_round
            case rel => exact ⟨j + 1, by omega, by go_num, by rw [HO.out]; rfl⟩
            case measure => simp [intOf]; omega
          | false =>
            rw [hb] at HO
            go_wp2_with (go_at_call 41; refine (in_nat _ HB.out _ _).mono ?_; rintro e w' ⟨rfl, rfl⟩)
            go_round
            case rel => exact ⟨j + 1, by omega, by go_num, by rw [HO.out]; rfl⟩
            case measure => simp [intOf]; omega
        · obtain rfl : j = n := by omega
          rw [HNX.out]
          by_cases hq : iterR l s (k + 1) = S
          · have HE := Lib.hid (HSTOP.out hq)
            have hq' : (((iterR l s (k + 1) : Nat) : Int) == (S : Int)) = true := by simp [hq]
            clear hq
            go_wp2
            go_ret
            exact ⟨ret_int (by rw [HE.out]), rfl⟩
          · have hq' : (((iterR l s (k + 1) : Nat) : Int) == (S : Int)) = false := by simp; omega
            have HGR2 : Hid (k + 1 ≤ (nums (iterR l s (k + 1))).length) := Lib.hid (by
              have := HGROW.out hq
              have h2 := HGR.out
              omega)
            clear hq
            go_wp2
            go_round
            case rel => exact ⟨k + 1, by omega, rfl, by go_num, by omega, HGR2.out⟩
            case measure => simp [intOf]; omega

/-- RowsFault: the sets are handed over in a slice. -/
theorem rRowsFault_any {A A2 : Option Addr} {n c m c2 : Nat} (l sets : List Nat) (w : World) (h1 : Rd w A (l.map uv)) (hl : l.length = n) (hnb : n ≤ 9223372036854775807) (hb : Rows64 l)
    (h2 : Rd w A2 (sets.map uv)) (hm : sets.length = m) (hmb : m ≤ 64) (hb2 : Rows64 sets) :
    Calls Tryd.prog 18 #[.slice A n c, .slice A2 m c2] w fun e w' => e = .returned (.int .i64 (faultOf l sets)) ∧ Below w.heap.size w w' := by
  by_cases hn : n ≤ 64
  · have HE : Hid (faultOf l sets = okErr ((l ++ sets).all (inU n))) := Lib.hid (by
      unfold faultOf okErr
      rw [if_neg (by omega), hl])
    have hlen : (l ++ sets).length = n + m := by simp [hl, hm]
    have HBB : Hid (Rows64 (l ++ sets)) := Lib.hid (fun i => by
      unfold rowAt
      rcases Nat.lt_or_ge i l.length with h | h
      · rw [List.getElem?_append_left h]; exact hb i
      · rw [List.getElem?_append_right h]; exact hb2 _)
    have HLN := Lib.hid hlen
    have HL := Lib.hid hl
    have HM := Lib.hid hm
    have H1 := Lib.hid h1
    have H2 := Lib.hid h2
    clear hl hm hlen h1 h2 hb hb2
    go_enter Tryd.func18, Tryd.ntmps18
    go_wp2_with (at_builtin; refine wpList_cat elU64 w _ _ w.heap.size none 0 0 [] A n c (l.map uv) (World.ownsRow_nil _ _ _ _) H1.out (by rw [List.length_map]; exact HL.out) ?o1 (Nat.le_refl _) (by omega) (by omega) rfl rfl rfl rfl ?_)
    case o1 => intro u hu; obtain ⟨x, _, rfl⟩ := List.mem_map.1 hu; rfl
    intro A3 c3 w1 hown1 hb1
    have H21 := Lib.hid (H2.out.below hb1)
    go_wp2_with (at_builtin; refine wpList_cat elU64 w1 _ _ w.heap.size A3 _ c3 _ A2 m c2 (sets.map uv) hown1 H21.out (by rw [List.length_map]; exact HM.out) ?o1 hb1.size (by omega) (by omega) rfl rfl rfl rfl ?_)
    case o1 => intro u hu; obtain ⟨x, _, rfl⟩ := List.mem_map.1 hu; rfl
    intro A4 c4 w2 hown2 hb2
    have h4 := Rd.of_own hown2
    rw [← List.map_append] at h4
    have H4 := Lib.hid h4
    have HB := Lib.hid (hb1.trans hb2)
    clear hown1 hown2 h4 hb1 hb2
    generalize l ++ sets = L at *
    go_wp2
    go_loop [6, 7, 16] (fun _ _ i => ∃ k : Nat, k ≤ n + m ∧ i = .int .i64 k ∧ (L.take k).all (inU n) = true) (fun _ _ i => n + m - (intOf i).toNat)
    case atStart => exact ⟨0, by omega, rfl, rfl⟩
    case round =>
      obtain ⟨k, hk, rfl, hok⟩ := hrel
      have HO := Lib.hid hok
      clear hok
      by_cases hlt : k < n + m
      · have hkl : k < L.length := by rw [HLN.out]; exact hlt
        obtain ⟨b, o, rfl, e1⟩ := H4.out.set hkl
        have HX := Lib.hid (HBB.out k)
        have HT := Lib.hid (all_take_snoc (p := inU n) hkl)
        have HF := Lib.hid (all_false (p := inU n) hkl)
        clear hkl
        generalize rowAt L k = x at *
        go_wp2
        go_loop [7] (fun i => ∃ j : Nat, n ≤ j ∧ j ≤ 64 ∧ i = .int .i64 j ∧ Hid (∀ q, n ≤ q → q < j → x.testBit q = false)) (fun i => 64 - (intOf i).toNat)
        case atStart => exact ⟨n, by omega, by omega, rfl, Lib.hid (fun q h1 h2 => absurd h2 (by omega))⟩
        case round =>
          obtain ⟨j, hj1, hj2, rfl, hq⟩ := hrel
          by_cases hjl : j < 64
          · cases hbit : x.testBit j with
            | true =>
              have HI : Hid (inU n x = false) := Lib.hid (by
                cases hi : inU n x with
                | false => rfl
                | true => have := (inU_iff hn HX.out).1 hi j hbit; omega)
              go_wp2_with (go_at_call 41; refine (in_nat _ HX.out _ _).mono ?_; rintro e w' ⟨rfl, rfl⟩)
              go_ret
              exact ⟨ret_int (by rw [HE.out, HF.out HI.out]; rfl), HB.out⟩
            | false =>
              have HQ : Hid (∀ q, n ≤ q → q < j + 1 → x.testBit q = false) := Lib.hid (fun q h1 h2 => by
                rcases Nat.lt_or_ge q j with h | h
                · exact hq.out q h1 h
                · obtain rfl : q = j := by omega
                  exact hbit)
              go_wp2_with (go_at_call 41; refine (in_nat _ HX.out _ _).mono ?_; rintro e w' ⟨rfl, rfl⟩)
              go_round
              case rel => exact ⟨j + 1, by omega, by omega, by go_num, HQ.out⟩
              case measure => simp [intOf]; omega
          · have HI : Hid (inU n x = true) := Lib.hid ((inU_iff hn HX.out).2 (fun q hqb => by
              rcases Nat.lt_or_ge q n with h | h
              · exact h
              · have := HX.out.bit hqb
                rw [hq.out q h (by omega)] at hqb
                cases hqb))
            go_wp2
            go_round
            case rel => exact ⟨k + 1, by omega, by go_num, by rw [HT.out, HO.out, HI.out]; rfl⟩
            case measure => simp [intOf]; omega
      · have HA : Hid (L.all (inU n) = true) := Lib.hid (by
          have := HO.out
          rw [List.take_of_length_le (by rw [HLN.out]; omega)] at this
          exact this)
        go_wp2
        go_ret
        exact ⟨ret_int (by rw [HE.out, HA.out]; rfl), HB.out⟩
  · have HE : Hid (faultOf l sets = 2) := Lib.hid (by unfold faultOf; rw [if_pos (by omega)])
    clear hl hm
    go_enter Tryd.func18, Tryd.ntmps18
    go_wp2
    go_ret
    exact ⟨ret_int HE.out.symm, Below.refl _ _⟩
end Go.Proofs.YtiechbaknolimaaDoor
