/- Some of the proof's texts, merged; each one's own words stand ahead of it. -/
import Derived.Test.YtoandhhkmkgmaaaMg32
import Derived.Test.YtoandhhkmkgmaaaMg38
import Derived.Test.YtoandhhkmkgmaaaMg19
import Derived.Test.YtoandhhkmkgmaaaMg4
/- Contract: infer.Check. Lists and texts below 2^63. -/
namespace Go.Proofs.Ytoandhhkmkgmaaa
open Go.RowKit

theorem rd_front {w : World} {A : Option Addr} {xs ys : List Value} (h : Rd w A (xs ++ ys)) : Rd w A xs := fun hp => by
  obtain ⟨b, off, hA, hb, hc⟩ := h (by rw [List.length_append]; omega)
  exact ⟨b, off, hA, hb, fun j u hu => hc j u (by rw [List.getElem?_append_left (List.getElem?_eq_some_iff.1 hu).1]; exact hu)⟩
theorem Rd.takeM {w : World} {A : Option Addr} {l : List SufT} (h : Rd w A (macV l)) (k : Nat) : Rd w A (macV (l.take k)) := by
  refine rd_front (ys := macV (l.drop k)) ?_
  have e : macV (l.take k) ++ macV (l.drop k) = macV l := by
    unfold macV
    rw [← List.flatMap_append, List.take_append_drop]
  rw [e]
  exact h
theorem infOne_form1 {p : List SufT} {a b : KeyT} (h : sufB a = false) : infOne p (a, b) = 3 := by unfold infOne; simp [h]
theorem infOne_form2 {p : List SufT} {a b : KeyT} (h : sufB b = false) : infOne p (a, b) = 3 := by unfold infOne; simp [h]
theorem infOne_same {p : List SufT} {a b : KeyT} (h2 : sufB b = true) (h : a = b) : infOne p (a, b) = 6 := by unfold infOne; simp [h, h2]
theorem infOne_there {p : List SufT} {a b : KeyT} (h1 : sufB a = true) (h2 : sufB b = true) (h : (a, b) ∈ p) : infOne p (a, b) = 6 := by unfold infOne; simp [h1, h2, h]
theorem infOne_ok {p : List SufT} {a b : KeyT} (h1 : sufB a = true) (h2 : sufB b = true) (h : a ≠ b) (h3 : (a, b) ∉ p) : infOne p (a, b) = 0 := by unfold infOne; simp [h1, h2, h, h3]
theorem all_next {l : List SufT} {k : Nat} {x : SufT} (hx : l[k]? = some x) (h : ∀ (j : Nat) (y : SufT), j < k → l[j]? = some y → infOne (l.take j) y = 0) (h0 : infOne (l.take k) x = 0) : ∀ (j : Nat) (y : SufT), j < k + 1 → l[j]? = some y → infOne (l.take j) y = 0 := fun j y hj hy => by
  rcases Nat.lt_or_ge j k with hl | hl
  · exact h j y hl hy
  · obtain rfl : j = k := by omega
    rw [hx] at hy
    injection hy with hy
    rw [← hy]; exact h0
set_option maxRecDepth 100000 in
set_option maxHeartbeats 4000000 in
theorem infCheck_any {A : Option Addr} {n c : Nat} (l : List SufT) (w : World) (hr : Rd w A (macV l)) (hn : l.length = n) (hb : n ≤ 9223372036854775807) (hnc : n ≤ c) (hs : ∀ x ∈ l, x.1.length ≤ 9223372036854775807 ∧ x.2.length ≤ 9223372036854775807) :
    Calls Try.prog 22 #[.slice A n c] w fun e w' => e = .returned (.int .i64 (infE l : Nat)) ∧ Below w.heap.size w w' := by
  have HR := Lib.hid hr
  have HN := Lib.hid hn
  have HS := Lib.hid hs
  clear hr hs hn
  go_enter Try.func22, Try.ntmps22
  by_cases h20 : 20 < n
  · have HE : Hid (infE l = 2) := Lib.hid (infE_big (by rw [HN.out]; exact h20))
    have a1 : (20 : Int) < (n : Int) := by omega
    clear h20
    go_wp2_with fail
    go_ret
    exact ⟨by rw [HE.out]; rfl, Below.refl _ _⟩
  have a1 : ¬ (20 : Int) < (n : Int) := by omega
  have H20 : Hid (¬ 20 < l.length) := Lib.hid (by rw [HN.out]; exact h20)
  clear h20
  go_wp2_with fail
  go_loopw [3, 4, 10] (fun _ _ i wr => ∃ k : Nat, k ≤ n ∧ i = .int .i64 (k : Int) ∧ Hid (Below w.heap.size w wr) ∧ Hid (∀ (j : Nat) (y : SufT), j < k → l[j]? = some y → infOne (l.take j) y = 0)) (fun _ _ i _ => n - (intOf i).toNat)
  case atStart => exact ⟨0, by omega, rfl, Lib.hid (Below.refl _ _), Lib.hid (fun _ _ hj => absurd hj (Nat.not_lt_zero _))⟩
  case round =>
    obtain ⟨k, hk, rfl, HB, HALL⟩ := hrel
    by_cases hlt : k < n
    · obtain ⟨x, hx⟩ : ∃ x, l[k]? = some x := ⟨_, List.getElem?_eq_getElem (by rw [HN.out]; exact hlt)⟩
      have HX := Lib.hid hx
      have HRk := Lib.hid (HR.out.takeM k)
      obtain ⟨b1, o1, rfl, e1, e2⟩ := (HR.out.below HB.out).macs hx
      have hxs := HS.out x (List.mem_of_getElem? hx)
      obtain ⟨xa, xb⟩ := x
      have e1' : wr.cell? ⟨b1, o1 + k * 2, none⟩ = some (.string ⟨xa.toArray⟩) := e1
      have e2' : wr.cell? ⟨b1, o1 + k * 2 + 1, none⟩ = some (.string ⟨xb.toArray⟩) := e2
      have HF1 := Lib.hid (fun W => suffix_any xa W hxs.1)
      have HF2 := Lib.hid (fun W => suffix_any xb W hxs.2)
      have HEQ := Lib.hid (eq_sv xa xb)
      have HC := Lib.hid (fun W (hW : Below w.heap.size w W) => slContainsI_any (c := c) (n := k) (l.take k) (xa, xb) W (HRk.out.below hW) (by rw [List.length_take, HN.out]; omega) (by omega))
      have HK := Lib.hid (Blk.new wr #[.string ⟨xa.toArray⟩, .string ⟨xb.toArray⟩] 93)
      have HB0 := Lib.hid (below_newL HB.out (below_new (Below.refl wr.heap.size wr) (.cells #[.string ⟨xa.toArray⟩, .string ⟨xb.toArray⟩] 93)))
      dsimp only at HC
      unfold sv at HF1 HF2 HC
      clear hx e1 e2 hxs
      generalize (⟨xa.toArray⟩ : ByteArray) = ba at *
      generalize (⟨xb.toArray⟩ : ByteArray) = bb at *
      have k0 : (0 : Int) ≤ (k : Int) := by omega
      have k1 : (k : Int) < (n : Int) := by omega
      have k2 : (k : Int) ≤ (c : Int) := by omega
      go_upto_region 6 with fail
      generalize wr.alloc (.cells #[.string ba, .string bb] 93) = w1 at *
      generalize wr.heap.size = CB at *
      have d0 : w1.cell? ⟨CB, 0, none⟩ = some (.string ba) := HK.out.cell (j := 0) rfl
      have d1 : w1.cell? ⟨CB, 1, none⟩ = some (.string bb) := HK.out.cell (j := 1) rfl
      clear e1' e2'
      cases hs1 : sufB xa with
      | false =>
        have HE : Hid (infE l = 3) := Lib.hid (by
          have h3 := infOne_form1 (p := l.take k) (b := xb) hs1
          rw [infE_at H20.out HX.out HALL.out (by rw [h3]; decide), h3])
        rw [hs1] at HF1
        clear hs1
        go_wp2_with fail
        refine (HF1.out _).mono ?_
        rintro e w2 ⟨rfl, hb2⟩
        have HB2 := Lib.hid (below_newL HB0.out hb2)
        clear hb2 d0 d1
        go_wp2_with fail
        go_ret
        exact ⟨by rw [HE.out]; rfl, HB2.out⟩
      | true =>
        rw [hs1] at HF1
        have HS1 := Lib.hid hs1
        clear hs1
        cases hs2 : sufB xb with
        | false =>
          have HE : Hid (infE l = 3) := Lib.hid (by
            have h3 := infOne_form2 (p := l.take k) (a := xa) hs2
            rw [infE_at H20.out HX.out HALL.out (by rw [h3]; decide), h3])
          rw [hs2] at HF2
          clear hs2
          go_wp2_with fail
          refine (HF1.out _).mono ?_
          rintro e w2 ⟨rfl, hb2⟩
          have HB2 := Lib.hid (below_newL HB0.out hb2)
          have d2 : w2.cell? ⟨CB, 1, none⟩ = some (.string bb) := cell_kept d1 hb2
          clear hb2 d0 d1
          go_wp2_with fail
          refine (HF2.out _).mono ?_
          rintro e w3 ⟨rfl, hb3⟩
          have HB3 := Lib.hid (below_newL HB2.out hb3)
          clear hb3 d2
          go_wp2_with fail
          go_ret
          exact ⟨by rw [HE.out]; rfl, HB3.out⟩
        | true =>
          rw [hs2] at HF2
          have HS2 := Lib.hid hs2
          clear hs2
          go_wp2_with fail
          refine (HF1.out _).mono ?_
          rintro e w2 ⟨rfl, hb2⟩
          have HB2 := Lib.hid (below_newL HB0.out hb2)
          have d2 : w2.cell? ⟨CB, 0, none⟩ = some (.string ba) := cell_kept d0 hb2
          have d3 : w2.cell? ⟨CB, 1, none⟩ = some (.string bb) := cell_kept d1 hb2
          clear hb2 d0 d1
          go_wp2_with fail
          refine (HF2.out _).mono ?_
          rintro e w3 ⟨rfl, hb3⟩
          have HB3 := Lib.hid (below_newL HB2.out hb3)
          have d4 : w3.cell? ⟨CB, 0, none⟩ = some (.string ba) := cell_kept d2 hb3
          have d5 : w3.cell? ⟨CB, 1, none⟩ = some (.string bb) := cell_kept d3 hb3
          clear hb3 d2 d3
          by_cases he : xa = xb
          · have HE : Hid (infE l = 6) := Lib.hid (by
              have h6 := infOne_same (p := l.take k) HS2.out he
              rw [infE_at H20.out HX.out HALL.out (by rw [h6]; decide), h6])
            have g1 : (ba.toList == bb.toList) = true := by rw [HEQ.out]; simp [he]
            clear he
            go_wp2_with fail
            go_quiet (fail)
            go_wp2_with fail
            go_ret
            exact ⟨by rw [HE.out]; rfl, below_drewN HB3.out _⟩
          · have HNE := Lib.hid he
            have g1 : (ba.toList == bb.toList) = false := by rw [HEQ.out]; simp [he]
            clear he
            have HSL := Lib.hid (fun W (hW : Below w3.heap.size w3 W) => (⟨cell_kept d4 hW, cell_kept d5 hW, hW⟩ : W.cell? ⟨CB, 0, none⟩ = some (.string ba) ∧ W.cell? ⟨CB, 1, none⟩ = some (.string bb) ∧ Below w3.heap.size w3 W))
            have b0 := Below.refl w3.heap.size w3
            have bd : Below w3.heap.size w3 w3.drew := Below.drew b0
            go_wp2_with fail
            go_region_held3 (fun W => W.cell? ⟨CB, 0, none⟩ = some (.string ba) ∧ W.cell? ⟨CB, 1, none⟩ = some (.string bb) ∧ Below w3.heap.size w3 W)
              ((refine HSL.out _ ?_; first | assumption | exact Below.drew (by assumption)))
              ((first
                | (go_at_call 53; (with_reducible refine (HC.out _ (below_newL HB3.out (by assumption))).mono ?_); rintro e u1 ⟨rfl, h1⟩; have bu1 := below_newL (by assumption) h1)))
            have HB4 := Lib.hid (below_newL HB3.out bu1)
            clear d4 d5 b0 bd HSL HC h1 bu1
            by_cases hin : (xa, xb) ∈ l.take k
            · have HE : Hid (infE l = 6) := Lib.hid (by
                have h6 := infOne_there HS1.out HS2.out hin
                rw [infE_at H20.out HX.out HALL.out (by rw [h6]; decide), h6])
              have hi : inI (l.take k) (xa, xb) = true := decide_eq_true hin
              rw [hi]
              clear hi hin
              go_wp2_with fail
              go_ret
              exact ⟨by rw [HE.out]; rfl, HB4.out⟩
            · have HAL2 := Lib.hid (all_next HX.out HALL.out (infOne_ok HS1.out HS2.out HNE.out hin))
              have hi : inI (l.take k) (xa, xb) = false := decide_eq_false hin
              rw [hi]
              clear hi hin
              go_wp2_with fail
              go_roundw
              case rel => exact ⟨k + 1, by omega, by go_num, HB4, HAL2⟩
              case measure => simp [intOf]; omega
    · obtain rfl : k = n := by omega
      have HE : Hid (infE l = 0) := Lib.hid (infE_no H20.out (fun j y hy => HALL.out j y (by have := (List.getElem?_eq_some_iff.1 hy).1; have := HN.out; omega) hy))
      go_wp2_with fail
      go_ret
      exact ⟨by rw [HE.out]; rfl, HB.out⟩
end Go.Proofs.Ytoandhhkmkgmaaa
/- Contracts: the reference's InferFault with its inner function. Lists and texts below 2^63. -/
namespace Go.Proofs.Ytoandhhkmkgmaaa
open Go.RowKit

theorem suf_dot {s : KeyT} {k : Nat} {c : UInt8} (hk : s[k]? = some c) (h1 : 1 ≤ k) (hc : dotSl c = true) : sufB s = false := by
  unfold sufB
  have : (s.drop 1).any dotSl = true := List.any_eq_true.2 ⟨c, List.mem_of_getElem? (i := k - 1) (by rw [List.getElem?_drop, show 1 + (k - 1) = k by omega]; exact hk), hc⟩
  rw [this]
  simp
theorem suf_yes {s : KeyT} (h1 : 2 ≤ s.length) (h2 : s.length ≤ 10) (h3 : s[0]? = some 46) (h4 : goodName s = true) (h : ∀ (j : Nat) (c : UInt8), 1 ≤ j → s[j]? = some c → dotSl c = false) : sufB s = true := by
  rw [suf_rest h1 h2 h3 h4]
  have : (s.drop 1).any dotSl = false := by
    rw [List.any_eq_false]
    intro c hc
    obtain ⟨j, hj⟩ := List.mem_iff_getElem?.1 hc
    rw [List.getElem?_drop] at hj
    simp [h (1 + j) c (by omega) hj]
  rw [this]
  rfl
theorem dotSl_no {c : UInt8} (h1 : ((c.toNat : Int) == 46) = false) (h2 : ((c.toNat : Int) == 47) = false) : dotSl c = false := by
  unfold dotSl
  have e1 : c ≠ 46 := fun e => by subst e; exact absurd h1 (by decide)
  have e2 : c ≠ 47 := fun e => by subst e; exact absurd h2 (by decide)
  simp [e1, e2]
set_option maxRecDepth 100000 in
set_option maxHeartbeats 2000000 in
theorem rGoodSuf_any (s : KeyT) (w : World) (hl : s.length ≤ 9223372036854775807) :
    Calls Try.prog 51 #[sv s] w fun e w' => e = .returned (.bool (sufB s)) ∧ w = w' := by
  have HNC := Lib.hid (goodName_any s w hl)
  unfold sv at HNC ⊢
  have HB := Lib.hid (strIs s)
  generalize (⟨s.toArray⟩ : ByteArray) = b at *
  have hsz : b.size = s.length := HB.out.size
  go_enter Try.func51, Try.ntmps51
  by_cases h1 : s.length < 2
  · have HE := Lib.hid (suf_short h1)
    have a1 : (b.size : Int) < (2 : Int) := by omega
    clear h1 hsz
    go_wp2_with fail
    go_ret
    exact ⟨by rw [HE.out]; rfl, rfl⟩
  have a1 : ¬ (b.size : Int) < (2 : Int) := by omega
  by_cases h2 : 10 < s.length
  · have HE := Lib.hid (suf_long h2)
    have a2 : (10 : Int) < (b.size : Int) := by omega
    clear h1 h2 hsz
    go_wp2_with fail
    go_ret
    exact ⟨by rw [HE.out]; rfl, rfl⟩
  have a2 : ¬ (10 : Int) < (b.size : Int) := by omega
  have hb0 : 0 < b.size := by omega
  have HX := Lib.hid (HB.out.at_ hb0)
  by_cases h3 : b[0] = 46
  · have a3 : ((b[0].toNat : Int) != 46) = false := by rw [h3]; rfl
    have H3 : Hid (s[0]? = some 46) := Lib.hid (by rw [HX.out, h3])
    clear h3
    cases h4 : goodName s with
    | true =>
      have HE := Lib.hid (fun h => suf_yes (s := s) (by omega) (by omega) H3.out h4 h)
      have HSZ := Lib.hid hsz
      have hb10 : b.size ≤ 10 := by omega
      rw [h4] at HNC
      clear h1 h2 h4 hsz
      go_wp2_with fail
      refine HNC.out.mono ?_
      rintro e w' ⟨rfl, rfl⟩
      go_wp2_with fail
      go_loop [3] (fun i => ∃ k : Nat, 1 ≤ k ∧ k ≤ b.size ∧ i = .int .i64 (k : Int) ∧ Hid (∀ (j : Nat) (c : UInt8), j < k → 1 ≤ j → s[j]? = some c → dotSl c = false)) (fun i => b.size - (intOf i).toNat)
      case atStart => exact ⟨1, by omega, by omega, rfl, Lib.hid (fun _ _ h h' => absurd h (by omega))⟩
      case round =>
        obtain ⟨k, hk1, hk, rfl, HA⟩ := hrel
        by_cases hlt : k < b.size
        · have HK := Lib.hid (HB.out.at_ hlt)
          have k1 : (k : Int) < (b.size : Int) := by omega
          by_cases c46 : ((b[k].toNat : Int) == 46) = true
          · have HF : Hid (sufB s = false) := Lib.hid (suf_dot HK.out hk1 (by
              have e : b[k] = 46 := byte_is (n := 46) (by decide) (by simpa using c46)
              rw [e]; rfl))
            go_wp2_with fail
            go_ret
            exact ⟨by rw [HF.out]; rfl, rfl⟩
          · rw [Bool.not_eq_true] at c46
            by_cases c47 : ((b[k].toNat : Int) == 47) = true
            · have HF : Hid (sufB s = false) := Lib.hid (suf_dot HK.out hk1 (by
                have e : b[k] = 47 := byte_is (n := 47) (by decide) (by simpa using c47)
                rw [e]; rfl))
              go_wp2_with fail
              go_ret
              exact ⟨by rw [HF.out]; rfl, rfl⟩
            · rw [Bool.not_eq_true] at c47
              have HA2 : Hid (∀ (j : Nat) (c : UInt8), j < k + 1 → 1 ≤ j → s[j]? = some c → dotSl c = false) := Lib.hid (fun j c hj h1 hc => by
                rcases Nat.lt_or_ge j k with h | h
                · exact HA.out j c h h1 hc
                · obtain rfl : j = k := by omega
                  rw [HK.out] at hc
                  injection hc with hc
                  rw [← hc]; exact dotSl_no c46 c47)
              go_wp2_with fail
              go_round
              case rel => exact ⟨k + 1, by omega, by omega, by go_num, HA2⟩
              case measure => simp [intOf]; omega
        · obtain rfl : k = b.size := by omega
          have HF : Hid (sufB s = true) := Lib.hid (HE.out (fun j c h1 hc => HA.out j c (by have := (List.getElem?_eq_some_iff.1 hc).1; have := HSZ.out; omega) h1 hc))
          go_wp2_with fail
          go_ret
          exact ⟨by rw [HF.out]; rfl, rfl⟩
    | false =>
      have HE := Lib.hid (suf_bad h4)
      rw [h4] at HNC
      clear h1 h2 h4 hsz
      go_wp2_with fail
      refine HNC.out.mono ?_
      rintro e w' ⟨rfl, rfl⟩
      go_wp2_with fail
      go_ret
      exact ⟨by rw [HE.out]; rfl, rfl⟩
  · have HE := Lib.hid (suf_head HX.out h3)
    have a3 : ((b[0].toNat : Int) != 46) = true := by
      simp only [bne_iff_ne, ne_eq]
      intro e
      exact h3 (byte_is (n := 46) (by decide) e)
    clear h1 h2 h3 hsz
    go_wp2_with fail
    go_ret
    exact ⟨by rw [HE.out]; rfl, rfl⟩
set_option maxRecDepth 100000 in
set_option maxHeartbeats 4000000 in
theorem rInfFault_any {A : Option Addr} {n c : Nat} (l : List SufT) (w : World) (hr : Rd w A (macV l)) (hn : l.length = n) (hb : n ≤ 9223372036854775807) (hnc : n ≤ c) (hs : ∀ x ∈ l, x.1.length ≤ 9223372036854775807 ∧ x.2.length ≤ 9223372036854775807) :
    Calls Try.prog 21 #[.slice A n c] w fun e w' => e = .returned (.int .i64 (infE l : Nat)) ∧ Below w.heap.size w w' := by
  have HR := Lib.hid hr
  have HN := Lib.hid hn
  have HS := Lib.hid hs
  clear hr hs hn
  go_enter Try.func21, Try.ntmps21
  by_cases h20 : 20 < n
  · have HE : Hid (infE l = 2) := Lib.hid (infE_big (by rw [HN.out]; exact h20))
    have a1 : (20 : Int) < (n : Int) := by omega
    clear h20
    go_wp2_with fail
    go_ret
    exact ⟨by rw [HE.out]; rfl, Below.refl _ _⟩
  have a1 : ¬ (20 : Int) < (n : Int) := by omega
  have H20 : Hid (¬ 20 < l.length) := Lib.hid (by rw [HN.out]; exact h20)
  clear h20
  go_wp2_with fail
  go_loopw [4, 5, 13] (fun _ _ i wr => ∃ k : Nat, k ≤ n ∧ i = .int .i64 (k : Int) ∧ Hid (Below w.heap.size w wr) ∧ Hid (∀ (j : Nat) (y : SufT), j < k → l[j]? = some y → infOne (l.take j) y = 0)) (fun _ _ i _ => n - (intOf i).toNat)
  case atStart => exact ⟨0, by omega, rfl, Lib.hid (Below.refl _ _), Lib.hid (fun _ _ hj => absurd hj (Nat.not_lt_zero _))⟩
  case round =>
    obtain ⟨k, hk, rfl, HB, HALL⟩ := hrel
    by_cases hlt : k < n
    · obtain ⟨x, hx⟩ : ∃ x, l[k]? = some x := ⟨_, List.getElem?_eq_getElem (by rw [HN.out]; exact hlt)⟩
      have HX := Lib.hid hx
      obtain ⟨b1, o1, rfl, e1, e2⟩ := (HR.out.below HB.out).macs hx
      have hxs := HS.out x (List.mem_of_getElem? hx)
      obtain ⟨xa, xb⟩ := x
      have e1' : wr.cell? ⟨b1, o1 + k * 2, none⟩ = some (.string ⟨xa.toArray⟩) := e1
      have e2' : wr.cell? ⟨b1, o1 + k * 2 + 1, none⟩ = some (.string ⟨xb.toArray⟩) := e2
      have HF1 := Lib.hid (fun W => rGoodSuf_any xa W hxs.1)
      have HF2 := Lib.hid (fun W => rGoodSuf_any xb W hxs.2)
      have HEQ := Lib.hid (eq_sv xa xb)
      have HEA := Lib.hid (fun y => eq_sv xa y)
      have HEB := Lib.hid (fun y => eq_sv xb y)
      have HK := Lib.hid (Blk.new wr #[.string ⟨xa.toArray⟩, .string ⟨xb.toArray⟩] 93)
      have HB0 := Lib.hid (below_newL HB.out (below_new (Below.refl wr.heap.size wr) (.cells #[.string ⟨xa.toArray⟩, .string ⟨xb.toArray⟩] 93)))
      unfold sv at HF1 HF2
      clear hx e1 e2 hxs
      generalize (⟨xa.toArray⟩ : ByteArray) = ba at *
      generalize (⟨xb.toArray⟩ : ByteArray) = bb at *
      have k0 : (0 : Int) ≤ (k : Int) := by omega
      have k1 : (k : Int) < (n : Int) := by omega
      have k2 : (k : Int) ≤ (c : Int) := by omega
      go_upto_region 7 with fail
      generalize wr.alloc (.cells #[.string ba, .string bb] 93) = w1 at *
      generalize wr.heap.size = CB at *
      have d0 : w1.cell? ⟨CB, 0, none⟩ = some (.string ba) := HK.out.cell (j := 0) rfl
      have d1 : w1.cell? ⟨CB, 1, none⟩ = some (.string bb) := HK.out.cell (j := 1) rfl
      clear e1' e2'
      cases hs1 : sufB xa with
      | false =>
        have HE : Hid (infE l = 3) := Lib.hid (by
          have h3 := infOne_form1 (p := l.take k) (b := xb) hs1
          rw [infE_at H20.out HX.out HALL.out (by rw [h3]; decide), h3])
        rw [hs1] at HF1
        clear hs1
        go_wp2_with fail
        refine (HF1.out _).mono ?_
        rintro e w2 ⟨rfl, rfl⟩
        go_wp2_with fail
        go_ret
        exact ⟨by rw [HE.out]; rfl, HB0.out⟩
      | true =>
        rw [hs1] at HF1
        have HS1 := Lib.hid hs1
        clear hs1
        cases hs2 : sufB xb with
        | false =>
          have HE : Hid (infE l = 3) := Lib.hid (by
            have h3 := infOne_form2 (p := l.take k) (a := xa) hs2
            rw [infE_at H20.out HX.out HALL.out (by rw [h3]; decide), h3])
          rw [hs2] at HF2
          clear hs2
          go_wp2_with fail
          refine (HF1.out _).mono ?_
          rintro e w2 ⟨rfl, rfl⟩
          go_wp2_with fail
          refine (HF2.out _).mono ?_
          rintro e w3 ⟨rfl, rfl⟩
          go_wp2_with fail
          go_ret
          exact ⟨by rw [HE.out]; rfl, HB0.out⟩
        | true =>
          rw [hs2] at HF2
          have HS2 := Lib.hid hs2
          clear hs2
          go_wp2_with fail
          refine (HF1.out _).mono ?_
          rintro e w2 ⟨rfl, rfl⟩
          go_wp2_with fail
          refine (HF2.out _).mono ?_
          rintro e w3 ⟨rfl, rfl⟩
          have HRI : Hid (Rd w1 (some ⟨b1, o1, none⟩) (macV l)) := Lib.hid (HR.out.below HB0.out)
          go_wp2_with fail
          go_loopw [7, 34] (fun _ i wq => ∃ j : Nat, j ≤ k ∧ i = .int .i64 (j : Int) ∧ Hid (Below w1.heap.size w1 wq) ∧ Hid (∀ (q : Nat) (y : SufT), q < j → l[q]? = some y → (xa, xb) ≠ y)) (fun _ i _ => k - (intOf i).toNat)
          case atStart => exact ⟨0, by omega, rfl, Lib.hid (Below.refl _ _), Lib.hid (fun _ _ hj => absurd hj (Nat.not_lt_zero _))⟩
          case round =>
            obtain ⟨j, hj, rfl, HBQ, HNO⟩ := hrel
            have f0 := cell_kept d0 HBQ.out
            have f1 := cell_kept d1 HBQ.out
            by_cases hjk : j < k
            · obtain ⟨y, hy⟩ : ∃ y, l[j]? = some y := ⟨_, List.getElem?_eq_getElem (by rw [HN.out]; omega)⟩
              have HY := Lib.hid hy
              obtain ⟨b2, o2, hbo, g1, g2⟩ := (HRI.out.below HBQ.out).macs hy
              injection hbo with hbo
              injection hbo with hbo1 hbo2 _
              subst hbo1 hbo2
              obtain ⟨ya, yb⟩ := y
              have g1' : wr.cell? ⟨b1, o1 + j * 2, none⟩ = some (.string ⟨ya.toArray⟩) := g1
              have g2' : wr.cell? ⟨b1, o1 + j * 2 + 1, none⟩ = some (.string ⟨yb.toArray⟩) := g2
              have q1 := HEA.out ya
              have q2 := HEB.out yb
              have hk2 := Blk.new wr #[.string ⟨ya.toArray⟩, .string ⟨yb.toArray⟩] 93
              have hbn := below_new (Below.refl wr.heap.size wr) (.cells #[.string ⟨ya.toArray⟩, .string ⟨yb.toArray⟩] 93)
              have z0 := cell_kept f0 hbn
              have z1 := cell_kept f1 hbn
              have z2 : (wr.alloc (.cells #[.string ⟨ya.toArray⟩, .string ⟨yb.toArray⟩] 93)).cell? ⟨wr.heap.size, 0, none⟩ = some (.string ⟨ya.toArray⟩) := hk2.cell (j := 0) rfl
              have z3 : (wr.alloc (.cells #[.string ⟨ya.toArray⟩, .string ⟨yb.toArray⟩] 93)).cell? ⟨wr.heap.size, 1, none⟩ = some (.string ⟨yb.toArray⟩) := hk2.cell (j := 1) rfl
              have HBR := Lib.hid (below_newL HBQ.out hbn)
              have j1 : (j : Int) < (k : Int) := by omega
              have j0 : (0 : Int) ≤ (j : Int) := by omega
              clear hy g1 g2 hk2 hbn
              generalize (⟨ya.toArray⟩ : ByteArray) = ca at *
              generalize (⟨yb.toArray⟩ : ByteArray) = cb at *
              go_upto_region 12 with fail
              generalize wr.alloc (.cells #[.string ca, .string cb] 93) = w5 at *
              clear f0 f1 g1' g2'
              by_cases he : xa = ya ∧ xb = yb
              · have HE : Hid (infE l = 6) := Lib.hid (by
                  have h6 := infOne_there HS1.out HS2.out (p := l.take k) (a := xa) (b := xb) (by
                    refine List.mem_of_getElem? (i := j) ?_
                    rw [List.getElem?_take, if_pos hjk, HY.out, he.1, he.2])
                  rw [infE_at H20.out HX.out HALL.out (by rw [h6]; decide), h6])
                rw [decide_eq_true he.1] at q1
                rw [decide_eq_true he.2] at q2
                clear he
                go_wp2_with fail
                go_ret
                exact ⟨by rw [HE.out]; rfl, below_newL HB0.out HBR.out⟩
              · have HNE : Hid ((xa, xb) ≠ (ya, yb)) := Lib.hid (fun e => he (by injection e with e1 e2; exact ⟨e1, e2⟩))
                have HNO2 : Hid (∀ (q : Nat) (y : SufT), q < j + 1 → l[q]? = some y → (xa, xb) ≠ y) := Lib.hid (fun q y hq hy => by
                  rcases Nat.lt_or_ge q j with h | h
                  · exact HNO.out q y h hy
                  · obtain rfl : q = j := by omega
                    rw [HY.out] at hy
                    injection hy with hy
                    rw [← hy]; exact HNE.out)
                by_cases ha : xa = ya
                · have hb' : xb ≠ yb := fun e => he ⟨ha, e⟩
                  rw [decide_eq_true ha] at q1
                  rw [decide_eq_false hb'] at q2
                  clear he ha hb'
                  go_wp2_with fail
                  go_roundw
                  case rel => exact ⟨j + 1, by omega, by go_num, HBR, HNO2⟩
                  case measure => simp [intOf]; omega
                · rw [decide_eq_false ha] at q1
                  clear he ha
                  go_wp2_with fail
                  go_roundw
                  case rel => exact ⟨j + 1, by omega, by go_num, HBR, HNO2⟩
                  case measure => simp [intOf]; omega
            · obtain rfl : j = k := by omega
              have HNI : Hid ((xa, xb) ∉ l.take j) := Lib.hid (fun hm => by
                obtain ⟨q, hq⟩ := List.mem_iff_getElem?.1 hm
                rw [List.getElem?_take] at hq
                split at hq
                · rename_i hqj; exact HNO.out q _ hqj hq rfl
                · cases hq)
              have HBX := Lib.hid (below_newL HB0.out HBQ.out)
              clear d0 d1
              by_cases he : xa = xb
              · have HE : Hid (infE l = 6) := Lib.hid (by
                  have h6 := infOne_same (p := l.take j) HS2.out he
                  rw [infE_at H20.out HX.out HALL.out (by rw [h6]; decide), h6])
                have g1 : (ba.toList == bb.toList) = true := by rw [HEQ.out]; simp [he]
                clear he
                go_wp2_with fail
                go_ret
                exact ⟨by rw [HE.out]; rfl, HBX.out⟩
              · have HAL2 := Lib.hid (all_next HX.out HALL.out (infOne_ok HS1.out HS2.out he HNI.out))
                have g1 : (ba.toList == bb.toList) = false := by rw [HEQ.out]; simp [he]
                clear he
                go_wp2_with fail
                go_roundw
                case rel => exact ⟨j + 1, by omega, by go_num, HBX, HAL2⟩
                case measure => simp [intOf]; omega
    · obtain rfl : k = n := by omega
      have HE : Hid (infE l = 0) := Lib.hid (infE_no H20.out (fun j y hy => HALL.out j y (by have := (List.getElem?_eq_some_iff.1 hy).1; have := HN.out; omega) hy))
      go_wp2_with fail
      go_ret
      exact ⟨by rw [HE.out]; rfl, HB.out⟩
end Go.Proofs.Ytoandhhkmkgmaaa
/- Contracts: infer.of, the reference's Inferred. Names of at most 2^40 bytes, suffixes of at most 2^40 bytes. -/
namespace Go.Proofs.Ytoandhhkmkgmaaa
open Go.RowKit

def ofV (o : Option KeyT) : KeyT := o.getD []
theorem cat_sv (a b : KeyT) : (⟨a.toArray⟩ : ByteArray) ++ ⟨b.toArray⟩ = ⟨(a ++ b).toArray⟩ := by
  apply ByteArray.ext
  simp
theorem cat_size (a : KeyT) : (⟨a.toArray⟩ : ByteArray).size = a.length := rfl
theorem hit_no1 {there : List KeyT} {st : KeyT × KeyT} {x : SufT} (h : x.2 ≠ st.2) : ofHit there st x = false := by unfold ofHit; simp [h]
theorem hit_no2 {there : List KeyT} {st : KeyT × KeyT} {x : SufT} (h : inL there (st.1 ++ x.1) = false) : ofHit there st x = false := by unfold ofHit; simp [h]
theorem hit_yes {there : List KeyT} {st : KeyT × KeyT} {x : SufT} (h : x.2 = st.2) (h2 : inL there (st.1 ++ x.1) = true) : ofHit there st x = true := by unfold ofHit; simp [h, h2]
theorem hits_next {there : List KeyT} {st : KeyT × KeyT} {l : List SufT} {k : Nat} {x : SufT} (hx : l[k]? = some x) (h : ∀ (j : Nat) (y : SufT), j < k → l[j]? = some y → ofHit there st y = false) (h0 : ofHit there st x = false) : ∀ (j : Nat) (y : SufT), j < k + 1 → l[j]? = some y → ofHit there st y = false := fun j y hj hy => by
  rcases Nat.lt_or_ge j k with hl | hl
  · exact h j y hl hy
  · obtain rfl : j = k := by omega
    rw [hx] at hy
    injection hy with hy
    rw [← hy]; exact h0
set_option maxRecDepth 100000 in
set_option maxHeartbeats 4000000 in
theorem infOf_any {A B : Option Addr} {n c m d : Nat} (l : List SufT) (there : List KeyT) (s : KeyT) (w : World) (hr : Rd w A (macV l)) (hn : l.length = n) (hb : n ≤ 9223372036854775807) (ht : Rd w B (there.map sv)) (hm : there.length = m) (hmb : m ≤ 9223372036854775807)
    (hl : s.length ≤ 1099511627776) (hs : ∀ x ∈ l, x.1.length ≤ 1099511627776) :
    Calls Try.prog 41 #[.slice A n c, .slice B m d, sv s] w fun e w' => e = .returned (.tuple #[sv (ofV (ofP l there s)), .bool (ofP l there s).isSome]) ∧ Below w.heap.size w w' := by
  have HR := Lib.hid hr
  have HN := Lib.hid hn
  have HS := Lib.hid hs
  have HT := Lib.hid ht
  have HM := Lib.hid hm
  have HST := Lib.hid (fun W => nStem_any s W (by omega))
  have HSL := Lib.hid (stemP_len s)
  have HSL2 := Lib.hid hl
  unfold sv at HST ⊢
  have HAT := Lib.hid (fun (k : Nat) (x : SufT) (hk : l[k]? = some x) h h2 => ofP_at (there := there) (s := s) hk h h2)
  have HNO := Lib.hid (fun h => ofP_no (l := l) (there := there) (s := s) h)
  generalize hstem : stemP s = st at *
  clear hstem
  obtain ⟨sa, sb⟩ := st
  dsimp only at HST HSL
  have HCAT := Lib.hid (fun x => cat_sv sa x)
  have HEQ := Lib.hid (fun x => eq_sv x sb)
  have HASZ := Lib.hid (cat_size sa)
  have HSA : Hid (sa.length ≤ 1099511627776) := Lib.hid (by have := HSL.out.1; have := HSL2.out; omega)
  generalize hba : (⟨sa.toArray⟩ : ByteArray) = ba at *
  generalize hbb : (⟨sb.toArray⟩ : ByteArray) = bb at *
  generalize (⟨s.toArray⟩ : ByteArray) = bs at *
  generalize hres : ofP l there s = R at *
  clear hr hs hn ht hm hl hba hbb hres
  go_enter Try.func41, Try.ntmps41
  go_wp2_with fail
  refine (HST.out _).mono ?_
  rintro e w0 ⟨rfl, hb0⟩
  have HB0 := Lib.hid hb0
  clear hb0
  go_wp2_with fail
  go_loopw [11, 19] (fun _ i wr => ∃ k : Nat, k ≤ n ∧ i = .int .i64 (k : Int) ∧ Hid (Below w.heap.size w wr) ∧ Hid (∀ (j : Nat) (y : SufT), j < k → l[j]? = some y → ofHit there (sa, sb) y = false)) (fun _ i _ => n - (intOf i).toNat)
  case atStart => exact ⟨0, by omega, rfl, HB0, Lib.hid (fun _ _ hj => absurd hj (Nat.not_lt_zero _))⟩
  case round =>
    obtain ⟨k, hk, rfl, HB, HALL⟩ := hrel
    by_cases hlt : k < n
    · obtain ⟨x, hx⟩ : ∃ x, l[k]? = some x := ⟨_, List.getElem?_eq_getElem (by rw [HN.out]; exact hlt)⟩
      have HX := Lib.hid hx
      obtain ⟨b1, o1, rfl, e1, e2⟩ := (HR.out.below HB.out).macs hx
      have HXS := Lib.hid (HS.out x (List.mem_of_getElem? hx))
      obtain ⟨xa, xb⟩ := x
      have e1' : wr.cell? ⟨b1, o1 + k * 2, none⟩ = some (.string ⟨xa.toArray⟩) := e1
      have e2' : wr.cell? ⟨b1, o1 + k * 2 + 1, none⟩ = some (.string ⟨xb.toArray⟩) := e2
      have HCX := Lib.hid (HCAT.out xa)
      have HQX := Lib.hid (HEQ.out xb)
      have HZX := Lib.hid (cat_size xa)
      have HC := Lib.hid (fun W (hW : Below w.heap.size w W) => slContains_any (c := d) there (sa ++ xa) W (HT.out.below hW) HM.out (by omega))
      have HK := Lib.hid (Blk.new wr #[.string ⟨xa.toArray⟩, .string ⟨xb.toArray⟩] 93)
      have HBN := Lib.hid (below_newL HB.out (below_new (Below.refl wr.heap.size wr) (.cells #[.string ⟨xa.toArray⟩, .string ⟨xb.toArray⟩] 93)))
      unfold sv at HC
      rw [← HCX.out] at HC
      clear hx e1 e2
      generalize (⟨xa.toArray⟩ : ByteArray) = ca at *
      generalize (⟨xb.toArray⟩ : ByteArray) = cb at *
      have k0 : (0 : Int) ≤ (k : Int) := by omega
      have k1 : (k : Int) < (n : Int) := by omega
      have z1 : ba.size + ca.size ≤ 9223372036854775807 := by
        have := HASZ.out
        have := HZX.out
        have := HSA.out
        have h9 := HXS.out
        dsimp only at h9
        omega
      go_upto_region 5 with fail
      generalize wr.alloc (.cells #[.string ca, .string cb] 93) = w1 at *
      generalize wr.heap.size = CB at *
      have d0 : w1.cell? ⟨CB, 0, none⟩ = some (.string ca) := HK.out.cell (j := 0) rfl
      have d1 : w1.cell? ⟨CB, 1, none⟩ = some (.string cb) := HK.out.cell (j := 1) rfl
      clear e1' e2'
      by_cases he : xb = sb
      · have g1 : (cb.toList == bb.toList) = true := by rw [HQX.out]; simp [he]
        have HE := Lib.hid he
        clear he
        cases hin : inL there (sa ++ xa) with
        | true =>
          have HR1 : Hid (R = some (sa ++ xa)) := Lib.hid (HAT.out k _ HX.out HALL.out (hit_yes HE.out hin))
          rw [hin] at HC
          clear hin
          go_wp2_with fail
          refine (HC.out _ HBN.out).mono ?_
          rintro e w2 ⟨rfl, rfl⟩
          go_wp2_with fail
          go_ret2
          exact ⟨by rw [HR1.out]; show _ = Ending.returned (.tuple #[.string ⟨(sa ++ xa).toArray⟩, .bool true]); rw [← HCX.out]; rfl, HBN.out⟩
        | false =>
          have HAL2 := Lib.hid (hits_next HX.out HALL.out (hit_no2 (st := (sa, sb)) hin))
          rw [hin] at HC
          clear hin
          go_wp2_with fail
          refine (HC.out _ HBN.out).mono ?_
          rintro e w2 ⟨rfl, rfl⟩
          go_wp2_with fail
          go_roundw
          case rel => exact ⟨k + 1, by omega, by go_num, HBN, HAL2⟩
          case measure => simp [intOf]; omega
      · have g1 : (cb.toList == bb.toList) = false := by rw [HQX.out]; simp [he]
        have HAL2 := Lib.hid (hits_next HX.out HALL.out (hit_no1 (there := there) (st := (sa, sb)) he))
        clear he
        go_wp2_with fail
        go_roundw
        case rel => exact ⟨k + 1, by omega, by go_num, HBN, HAL2⟩
        case measure => simp [intOf]; omega
    · obtain rfl : k = n := by omega
      have HR1 : Hid (R = none) := Lib.hid (HNO.out (fun j y hy => HALL.out j y (by have := (List.getElem?_eq_some_iff.1 hy).1; have := HN.out; omega) hy))
      go_wp2_with fail
      go_ret2
      exact ⟨by rw [HR1.out]; rfl, HB.out⟩
set_option maxRecDepth 100000 in
set_option maxHeartbeats 4000000 in
theorem rInferred_any {A B : Option Addr} {n c m d : Nat} (l : List SufT) (there : List KeyT) (s : KeyT) (w : World) (hr : Rd w A (macV l)) (hn : l.length = n) (hb : n ≤ 9223372036854775807) (ht : Rd w B (there.map sv)) (hm : there.length = m) (hmb : m ≤ 9223372036854775807)
    (hl : s.length ≤ 1099511627776) (hs : ∀ x ∈ l, x.1.length ≤ 1099511627776) :
    Calls Try.prog 26 #[.slice A n c, .slice B m d, sv s] w fun e w' => e = .returned (.tuple #[sv (ofV (ofP l there s)), .bool (ofP l there s).isSome]) ∧ Below w.heap.size w w' := by
  have HR := Lib.hid hr
  have HN := Lib.hid hn
  have HS := Lib.hid hs
  have HT := Lib.hid ht
  have HM := Lib.hid hm
  have HST := Lib.hid (fun W => rStemP_any s W (by omega))
  have HSL := Lib.hid (stemP_len s)
  have HSL2 := Lib.hid hl
  unfold sv at HST ⊢
  have HAT := Lib.hid (fun (k : Nat) (x : SufT) (hk : l[k]? = some x) h h2 => ofP_at (there := there) (s := s) hk h h2)
  have HNO := Lib.hid (fun h => ofP_no (l := l) (there := there) (s := s) h)
  generalize hstem : stemP s = st at *
  clear hstem
  obtain ⟨sa, sb⟩ := st
  dsimp only at HST HSL
  have HCAT := Lib.hid (fun x => cat_sv sa x)
  have HEQ := Lib.hid (fun x => eq_sv sb x)
  have HASZ := Lib.hid (cat_size sa)
  have HSA : Hid (sa.length ≤ 1099511627776) := Lib.hid (by have := HSL.out.1; have := HSL2.out; omega)
  generalize hba : (⟨sa.toArray⟩ : ByteArray) = ba at *
  generalize hbb : (⟨sb.toArray⟩ : ByteArray) = bb at *
  generalize (⟨s.toArray⟩ : ByteArray) = bs at *
  generalize hres : ofP l there s = R at *
  clear hr hs hn ht hm hl hba hbb hres
  go_enter Try.func26, Try.ntmps26
  go_wp2_with fail
  go_loopw [9, 10, 11, 14] (fun _ _ _ i wr => ∃ k : Nat, k ≤ n ∧ i = .int .i64 (k : Int) ∧ Hid (Below w.heap.size w wr) ∧ Hid (∀ (j : Nat) (y : SufT), j < k → l[j]? = some y → ofHit there (sa, sb) y = false)) (fun _ _ _ i _ => n - (intOf i).toNat)
  case atStart => exact ⟨0, by omega, rfl, Lib.hid (Below.refl _ _), Lib.hid (fun _ _ hj => absurd hj (Nat.not_lt_zero _))⟩
  case round =>
    obtain ⟨k, hk, rfl, HB, HALL⟩ := hrel
    by_cases hlt : k < n
    · obtain ⟨x, hx⟩ : ∃ x, l[k]? = some x := ⟨_, List.getElem?_eq_getElem (by rw [HN.out]; exact hlt)⟩
      have HX := Lib.hid hx
      obtain ⟨b1, o1, rfl, e1, e2⟩ := (HR.out.below HB.out).macs hx
      have HXS := Lib.hid (HS.out x (List.mem_of_getElem? hx))
      obtain ⟨xa, xb⟩ := x
      have e1' : wr.cell? ⟨b1, o1 + k * 2, none⟩ = some (.string ⟨xa.toArray⟩) := e1
      have e2' : wr.cell? ⟨b1, o1 + k * 2 + 1, none⟩ = some (.string ⟨xb.toArray⟩) := e2
      have HCX := Lib.hid (HCAT.out xa)
      have HQX := Lib.hid (HEQ.out xb)
      have HZX := Lib.hid (cat_size xa)
      have HC := Lib.hid (fun W (hW : Below w.heap.size w W) => place_any (c := d) there (sa ++ xa) W (HT.out.below hW) HM.out (by omega))
      have HK := Lib.hid (Blk.new wr #[.string ⟨xa.toArray⟩, .string ⟨xb.toArray⟩] 93)
      have HBN := Lib.hid (below_newL HB.out (below_new (Below.refl wr.heap.size wr) (.cells #[.string ⟨xa.toArray⟩, .string ⟨xb.toArray⟩] 93)))
      unfold sv at HC
      rw [← HCX.out] at HC
      clear hx e1 e2
      generalize (⟨xa.toArray⟩ : ByteArray) = ca at *
      generalize (⟨xb.toArray⟩ : ByteArray) = cb at *
      have k0 : (0 : Int) ≤ (k : Int) := by omega
      have k1 : (k : Int) < (n : Int) := by omega
      have z1 : ba.size + ca.size ≤ 9223372036854775807 := by
        have := HASZ.out
        have := HZX.out
        have := HSA.out
        have h9 := HXS.out
        dsimp only at h9
        omega
      go_upto_region 4 with fail
      generalize wr.alloc (.cells #[.string ca, .string cb] 93) = w1 at *
      generalize wr.heap.size = CB at *
      have d0 : w1.cell? ⟨CB, 0, none⟩ = some (.string ca) := HK.out.cell (j := 0) rfl
      have d1 : w1.cell? ⟨CB, 1, none⟩ = some (.string cb) := HK.out.cell (j := 1) rfl
      clear e1' e2'
      go_wp2_with fail
      refine (HST.out _).mono ?_
      rintro e w2 ⟨rfl, hb2⟩
      have HB2 := Lib.hid (below_newL HBN.out hb2)
      have d2 : w2.cell? ⟨CB, 0, none⟩ = some (.string ca) := cell_kept d0 hb2
      have d3 : w2.cell? ⟨CB, 1, none⟩ = some (.string cb) := cell_kept d1 hb2
      clear d0 d1 hb2
      by_cases he : xb = sb
      · have g1 : (bb.toList == cb.toList) = true := by rw [HQX.out]; simp [he]
        have HE := Lib.hid he
        clear he
        go_wp2_with fail
        refine (HC.out _ HB2.out).mono ?_
        rintro e w3 ⟨i, rfl, rfl, hi⟩
        rcases hi with ⟨rfl, hno⟩ | ⟨q, rfl, hq⟩
        · have HAL2 := Lib.hid (hits_next HX.out HALL.out (hit_no2 (st := (sa, sb)) (x := (xa, xb)) (decide_eq_false hno)))
          clear hno
          go_wp2_with fail
          go_roundw
          case rel => exact ⟨k + 1, by omega, by go_num, HB2, HAL2⟩
          case measure => simp [intOf]; omega
        · have HR1 : Hid (R = some (sa ++ xa)) := Lib.hid (HAT.out k _ HX.out HALL.out (hit_yes HE.out (decide_eq_true (List.mem_of_getElem? hq))))
          have k9 : (0 : Int) ≤ (q : Int) := by omega
          clear hq
          go_wp2_with fail
          go_ret2
          exact ⟨by rw [HR1.out]; show _ = Ending.returned (.tuple #[.string ⟨(sa ++ xa).toArray⟩, .bool true]); rw [← HCX.out]; rfl, HB2.out⟩
      · have g1 : (bb.toList == cb.toList) = false := by rw [HQX.out]; simp; exact fun e => he e.symm
        have HAL2 := Lib.hid (hits_next HX.out HALL.out (hit_no1 (there := there) (st := (sa, sb)) he))
        clear he
        go_wp2_with fail
        go_roundw
        case rel => exact ⟨k + 1, by omega, by go_num, HB2, HAL2⟩
        case measure => simp [intOf]; omega
    · obtain rfl : k = n := by omega
      have HR1 : Hid (R = none) := Lib.hid (HNO.out (fun j y hy => HALL.out j y (by have := (List.getElem?_eq_some_iff.1 hy).1; have := HN.out; omega) hy))
      go_wp2_with fail
      go_ret2
      exact ⟨by rw [HR1.out]; rfl, HB.out⟩
end Go.Proofs.Ytoandhhkmkgmaaa
/- Contract: infer.Of. At most 8799999990000 names that are there. -/
namespace Go.Proofs.Ytoandhhkmkgmaaa
open Go.RowKit

/-- infer.Of: the error, and what it finds. -/
noncomputable def inE (l : List SufT) (there : List KeyT) (s : KeyT) : Nat := if infE l ≠ 0 then infE l else if there.all goodName = false then 3 else if goodName s = false then 3 else 0
noncomputable def inR (l : List SufT) (there : List KeyT) (s : KeyT) : Option KeyT := if inE l there s = 0 then ofP l there s else none
theorem inE_inf {l : List SufT} {there : List KeyT} {s : KeyT} (h : infE l ≠ 0) : inE l there s = infE l := if_pos h
theorem inE_there {l : List SufT} {there : List KeyT} {s : KeyT} (h : infE l = 0) (h2 : there.all goodName = false) : inE l there s = 3 := by unfold inE; rw [if_neg (by rw [h]; simp), if_pos h2]
theorem inE_name {l : List SufT} {there : List KeyT} {s : KeyT} (h : infE l = 0) (h2 : there.all goodName = true) (h3 : goodName s = false) : inE l there s = 3 := by unfold inE; rw [if_neg (by rw [h]; simp), if_neg (by rw [h2]; simp), if_pos h3]
theorem inE_ok {l : List SufT} {there : List KeyT} {s : KeyT} (h : infE l = 0) (h2 : there.all goodName = true) (h3 : goodName s = true) : inE l there s = 0 := by unfold inE; rw [if_neg (by rw [h]; simp), if_neg (by rw [h2]; simp), if_neg (by rw [h3]; simp)]
theorem inR_no {l : List SufT} {there : List KeyT} {s : KeyT} (h : inE l there s ≠ 0) : inR l there s = none := if_neg h
theorem inR_ok {l : List SufT} {there : List KeyT} {s : KeyT} (h : inE l there s = 0) : inR l there s = ofP l there s := if_pos h
theorem good_len40 {s : List UInt8} (h : goodName s = true) : s.length ≤ 40 := by
  unfold goodName at h
  simp only [Bool.and_eq_true, decide_eq_true_eq] at h
  exact h.2.2
def OfAllPost (l : List SufT) (there : List KeyT) (s : KeyT) (w : World) (e : Ending) (w' : World) : Prop :=
  e = .returned (.tuple #[sv (ofV (inR l there s)), .bool (inR l there s).isSome, .int .i64 (inE l there s : Nat)]) ∧ Below w.heap.size w w'
theorem ofAllPost_no {l : List SufT} {there : List KeyT} {s : KeyT} {w w' : World} {v : Int} (h : inE l there s ≠ 0) (hv : v = (inE l there s : Nat)) (hb : Below w.heap.size w w') : OfAllPost l there s w (.returned (.tuple #[.string ⟨#[]⟩, .bool false, .int .i64 v])) w' :=
  ⟨by rw [hv, inR_no h]; rfl, hb⟩
theorem ret_three {r1 r2 r3 v1 v2 v3 : Value} (h1 : r1 = v1) (h2 : r2 = v2) (h3 : r3 = v3) : Ending.returned (.tuple #[r1, r2, r3]) = .returned (.tuple #[v1, v2, v3]) := by rw [h1, h2, h3]
set_option maxRecDepth 100000 in
set_option maxHeartbeats 4000000 in
theorem iOf_any {A B : Option Addr} {n c m d : Nat} (l : List SufT) (there : List KeyT) (s : KeyT) (w : World) (hr : Rd w A (macV l)) (hn : l.length = n) (hb : n ≤ 9223372036854775807) (hnc : n ≤ c) (hs : ∀ x ∈ l, x.1.length ≤ 9223372036854775807 ∧ x.2.length ≤ 9223372036854775807)
    (ht : Rd w B (there.map sv)) (hm : there.length = m) (hmb : m ≤ 8799999990000) (hts : StrsOk there) (hl : s.length ≤ 9223372036854775807) :
    Calls Try.prog 18 #[.slice A n c, .slice B m d, sv s] w (OfAllPost l there s w) := by
  have HC := Lib.hid (infCheck_any (c := c) l w hr hn hb hnc hs)
  have HN := Lib.hid (fun W (hW : Below w.heap.size w W) => infNames_any (c := d) there W (ht.below hW) hm (by omega) hts)
  have HS := Lib.hid (fun W => nmCheck_any s W hl)
  have HO := Lib.hid (fun W (hW : Below w.heap.size w W) (h1 : s.length ≤ 1099511627776) (h2 : ∀ x ∈ l, x.1.length ≤ 1099511627776) => infOf_any (c := c) (d := d) l there s W (hr.below hW) hn hb (ht.below hW) hm (by omega) h1 h2)
  unfold sv at HS HO ⊢
  generalize hbs : (⟨s.toArray⟩ : ByteArray) = bs at *
  clear hr hn hs ht hm hts hl hbs
  go_enter Try.func18, Try.ntmps18
  go_wp2_with fail
  refine HC.out.mono ?_
  rintro e w1 ⟨rfl, hb1⟩
  have HB1 := Lib.hid hb1
  clear hb1
  by_cases hi : infE l = 0
  · have HI := Lib.hid hi
    rw [hi]
    clear hi
    go_wp2_with fail
    refine (HN.out _ HB1.out).mono ?_
    rintro e w2 ⟨rfl, hb2⟩
    have HB2 := Lib.hid (below_then HB1.out hb2)
    clear hb2
    cases hg : there.all goodName with
    | false =>
      have HE := Lib.hid (inE_there (s := s) HI.out hg)
      rw [show namesErr there = 3 by unfold namesErr; rw [hg]; rfl]
      clear hg
      go_wp2_with fail
      go_ret3
      exact ofAllPost_no (by rw [HE.out]; decide) (by rw [HE.out]; rfl) HB2.out
    | true =>
      have HG := Lib.hid hg
      rw [show namesErr there = 0 by unfold namesErr; rw [hg]; rfl]
      clear hg
      go_wp2_with fail
      refine (HS.out _).mono ?_
      rintro e w3 ⟨rfl, rfl⟩
      cases hq : goodName s with
      | false =>
        have HE := Lib.hid (inE_name HI.out HG.out hq)
        rw [show nameErr s = 3 by unfold nameErr; rw [hq]; rfl]
        clear hq
        go_wp2_with fail
        go_ret3
        exact ofAllPost_no (by rw [HE.out]; decide) (by rw [HE.out]; rfl) HB2.out
      | true =>
        have HE := Lib.hid (inE_ok HI.out HG.out hq)
        have HOI := Lib.hid (HO.out _ HB2.out (by have := good_len40 hq; omega) (fun x hx => Nat.le_trans (sufB_len ((infE_ok HI.out).2 x hx).1) (by decide)))
        rw [show nameErr s = 0 by unfold nameErr; rw [hq]; rfl]
        have HR := Lib.hid (inR_ok HE.out)
        clear hq HO
        generalize hR : ofP l there s = R at *
        clear hR
        go_wp2_with fail
        refine HOI.out.mono ?_
        rintro e w4 ⟨rfl, hb4⟩
        have HB4 := Lib.hid (below_then HB2.out hb4)
        clear hb4
        go_wp2_with fail
        go_ret3
        exact ⟨by rw [HR.out, HE.out]; rfl, HB4.out⟩
  · have HE := Lib.hid (inE_inf (there := there) (s := s) hi)
    have HI0 := Lib.hid hi
    have hn0 : (((infE l : Nat) : Int) != 0) = true := by simp; omega
    have hn1 : (((infE l : Nat) : Int) == 0) = false := by simp; omega
    generalize hv : ((infE l : Nat) : Int) = V at *
    have HV := Lib.hid hv
    clear hi hv
    go_wp2_with fail
    go_ret3
    exact ofAllPost_no (by rw [HE.out]; exact HI0.out) (by rw [HE.out]; exact HV.out.symm) HB1.out
end Go.Proofs.Ytoandhhkmkgmaaa
