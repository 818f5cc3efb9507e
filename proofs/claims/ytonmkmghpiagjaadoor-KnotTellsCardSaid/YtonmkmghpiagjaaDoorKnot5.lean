/- Contracts of the reference: Tied, TiedParts, FoldedRows; IsWalk and IsRing at a ring. Rows are good. -/
import Derived.Test.YtonmkmghpiagjaaDoorKnotPlain3
import Derived.Test.YtonmkmghpiagjaaDoorKnotIx
import Derived.Test.YtonmkmghpiagjaaDoorReach5
import Derived.Test.YtonmkmghpiagjaaDoorQuiet
import Derived.BigQuiet
import Derived.Deep.QuietTactic
namespace Go.Proofs.YtonmkmghpiagjaaDoor
open Go.RowKit

/-- The block of a slice. -/
theorem own_lt0 {w : World} {B n c g : Nat} {e : TypeId} {xs : List Value} (h : w.ownsRow B e 1 (.slice (some ⟨g, 0, none⟩) n c) n xs) : g < w.heap.size := (h.lt g rfl).2
theorem inRows_bit {l : List Nat} {k : Nat} (hk : k < l.length) : InRows l (2 ^ k) := fun j hj => by
  rw [Nat.testBit_two_pow] at hj
  have : k = j := of_decide_eq_true hj
  omega
theorem rTied_any {A : Option Addr} {n c : Nat} (l : List Nat) (x : Nat) (w : World) (h1 : Rd w A (l.map uv)) (hl : l.length = n) (hg : Good l) (hx : x < n) :
    Calls Tryd.prog 98 #[.slice A n c, .int .i64 (x : Nat)] w fun e w' => e = .returned (.int .u64 (tiedS l x : Nat)) ∧ w = w' := by
  have hn : n ≤ 64 := by have := hg.1; omega
  have H1 := Lib.hid h1
  have HL := Lib.hid hl
  have HG := Lib.hid hg
  have HIN := Lib.hid (fun k (hk : k < n) => inRows_bit (l := l) (k := k) (by omega))
  have HRB := Lib.hid (fun k (hk : k < n) => (reachD_in hg (inRows_bit (l := l) (k := k) (by omega)) (-1)).b64 hg)
  have hsh := shl_raw x (by omega)
  clear h1 hl hg
  go_enter Tryd.func98, Tryd.ntmps98
  go_wp2_with fail
  refine (rSteps_any l (2 ^ x) (-1) w H1.out HL.out HG.out (HIN.out x hx) (by decide) (by decide)).mono ?_
  rintro e w' ⟨rfl, rfl⟩
  go_wp2_with fail
  go_loop [5, 14] (fun o i => ∃ k : Nat, i = .int .i64 (k : Int) ∧ k ≤ n ∧ o = .int .u64 (tieS l x k : Nat)) (fun _ i => n - (intOf i).toNat)
  case atStart => exact ⟨0, rfl, Nat.zero_le _, rfl⟩
  case round =>
    obtain ⟨k, rfl, hk, rfl⟩ := hrel
    by_cases hlt : k < n
    · have hsh2 := shl_raw k (by omega)
      have HTB := Lib.hid (tieS_b64 l x (k := k) (by omega))
      have e2 : bits .or .u64 ((tieS l x k : Nat) : Int) ((2 : Int) ^ k) = (addN (tieS l x k) k : Nat) := by
        have h := or_raw (tieS l x k) k HTB.out (by omega)
        rw [hsh2] at h
        simpa using h
      have HYES : Hid (tieB l x k = true → tieS l x (k + 1) = addN (tieS l x k) k) := Lib.hid (fun h => by show (if _ then _ else _) = _; rw [if_pos h])
      have HNO : Hid (tieB l x k = false → tieS l x (k + 1) = tieS l x k) := Lib.hid (fun h => by show (if _ then _ else _) = _; rw [h, if_neg (by decide)])
      go_wp2_with fail
      refine (in_nat _ (HRB.out x hx) k w).mono ?_
      rintro e w' ⟨rfl, rfl⟩
      cases h1 : (reachD l (2 ^ x) (-1)).testBit k with
      | false =>
        have HR := Lib.hid (HNO.out (by unfold tieB; rw [h1]; rfl))
        clear h1
        go_wp2_with fail
        exact ⟨⟨k + 1, val_succ k, hlt, by rw [HR.out]⟩, meas_lt hlt⟩
      | true =>
        have HT1 := Lib.hid h1
        clear h1
        go_wp2_with fail
        refine (rSteps_any l (2 ^ k) (-1) w H1.out HL.out HG.out (HIN.out k hlt) (by decide) (by decide)).mono ?_
        rintro e w' ⟨rfl, rfl⟩
        go_wp2_with fail
        refine (in_nat _ (HRB.out k hlt) x w).mono ?_
        rintro e w' ⟨rfl, rfl⟩
        cases h2 : (reachD l (2 ^ k) (-1)).testBit x with
        | false =>
          have HR := Lib.hid (HNO.out (by unfold tieB; rw [HT1.out, h2]; rfl))
          clear h2
          go_wp2_with fail
          exact ⟨⟨k + 1, val_succ k, hlt, by rw [HR.out]⟩, meas_lt hlt⟩
        | true =>
          have HR := Lib.hid (HYES.out (by unfold tieB; rw [HT1.out, h2]; rfl))
          clear h2
          go_wp2_with fail
          exact ⟨⟨k + 1, val_succ k, hlt, by rw [HR.out]⟩, meas_lt hlt⟩
    · obtain rfl : k = n := by omega
      have HE : Hid (tieS l x k = tiedS l x) := Lib.hid (by unfold tiedS; rw [HL.out])
      rw [HE.out]
      go_wp2_with fail
      go_ret
      exact ⟨rfl, rfl⟩
theorem tpI_b64 {l : List Nat} (hg : Good l) {k : Nat} (hk : k ≤ l.length) : B64 (tpI l k).2 := B64.of_bits fun j hj => by
  have h := tpI_inv hg k hk
  obtain ⟨s, h1, h2⟩ := (h.done j).1 hj
  obtain ⟨x, h3, rfl, _⟩ := h.mem s h1
  have := ((tieS_bit l x _ j).1 h2).1
  have := hg.1
  omega
theorem tpI_len (l : List Nat) (k : Nat) : (tpI l k).1.length ≤ k := by
  induction k with
  | zero => exact Nat.le_refl _
  | succ k ih =>
    unfold tpI
    split
    · omega
    · show ((tpI l k).1 ++ [_]).length ≤ _
      rw [List.length_append]
      simp
      omega
theorem rTiedParts_any {A : Option Addr} {n c : Nat} (l : List Nat) (w : World) (h1 : Rd w A (l.map uv)) (hl : l.length = n) (hg : Good l) :
    Calls Tryd.prog 60 #[.slice A n c] w (OwnPost 23 (tiedParts l).length ((tiedParts l).map uv) w) := by
  have hn : n ≤ 64 := by have := hg.1; omega
  have H1 := Lib.hid h1
  have HL := Lib.hid hl
  have HG := Lib.hid hg
  clear h1 hl hg
  go_enter Tryd.func60, Tryd.ntmps60
  go_wp2_with fail
  go_loopw [3, 4, 9] (fun o d i wr => ∃ (k : Nat) (A' : Option Addr) (c' : Nat), i = .int .i64 (k : Int) ∧ k ≤ n ∧ o = .slice A' (tpI l k).1.length c' ∧ d = .int .u64 ((tpI l k).2 : Nat) ∧ Hid (wr.ownsRow w.heap.size 23 1 (.slice A' (tpI l k).1.length c') (tpI l k).1.length ((tpI l k).1.map uv)) ∧ Hid (Below w.heap.size w wr)) (fun _ _ i _ => n - (intOf i).toNat)
  case atStart => exact ⟨0, none, 0, rfl, Nat.zero_le _, rfl, rfl, Lib.hid (World.ownsRow_nil _ _ _ _), Lib.hid (Below.refl _ _)⟩
  case round =>
    obtain ⟨k, A', c', rfl, hk, rfl, rfl, hown, hbw⟩ := hrel
    by_cases hlt : k < n
    · have HDB := Lib.hid (tpI_b64 HG.out (k := k) (by rw [HL.out]; exact hk))
      have HSB := Lib.hid (tieS_b64 l k (k := l.length) HG.out.1)
      have hlen := tpI_len l k
      have HYES : Hid ((tpI l k).2.testBit k = true → tpI l (k + 1) = tpI l k) := Lib.hid (fun h => by show (if _ then _ else _) = _; rw [if_pos h])
      have HNO : Hid ((tpI l k).2.testBit k = false → tpI l (k + 1) = ((tpI l k).1 ++ [tiedS l k], (tpI l k).2 ||| tiedS l k)) := Lib.hid (fun h => by show (if _ then _ else _) = _; rw [h, if_neg (by decide)])
      go_wp2_with fail
      refine (in_nat _ HDB.out k wr).mono ?_
      rintro e w' ⟨rfl, rfl⟩
      cases h1 : (tpI l k).2.testBit k with
      | true =>
        have HR := Lib.hid (HYES.out h1)
        clear h1
        go_wp2_with fail
        exact ⟨⟨k + 1, A', c', val_succ k, hlt, by rw [HR.out], by rw [HR.out], by rw [HR.out]; exact hown, hbw⟩, meas_lt hlt⟩
      | false =>
        have HR := Lib.hid (HNO.out h1)
        have e1 := u64_or_nat (tpI l k).2 (tiedS l k) HDB.out HSB.out
        have hsz := hbw.out.size
        clear h1
        go_wp2_with fail
        refine (rTied_any l k _ (H1.out.below hbw.out) HL.out HG.out hlt).mono ?_
        rintro e w' ⟨rfl, rfl⟩
        go_wp2_with (at_builtin; refine wpList_push elU64 wr _ _ w.heap.size A' (tpI l k).1.length c' _ (uv (tiedS l k)) hown.out rfl hsz (by omega) (by omega) rfl rfl rfl rfl ?_; intro A5 c5 w5 hown5 hb5; have HO5 := Lib.hid hown5; have HB5 := Lib.hid (hbw.out.trans hb5); clear hown5 hb5)
        exact ⟨⟨k + 1, A5, c5, val_succ k, hlt, by rw [HR.out, List.length_append]; rfl, by rw [HR.out], by rw [HR.out, List.length_append, List.map_append]; exact HO5, HB5⟩, meas_lt hlt⟩
    · obtain rfl : k = n := by omega
      have HE : Hid ((tpI l k).1 = tiedParts l) := Lib.hid (by unfold tiedParts; rw [HL.out])
      have HO := Lib.hid hown.out
      rw [HE.out] at HO ⊢
      go_wp2_with fail
      go_ret
      exact ⟨A', c', rfl, HO.out, hbw.out⟩
/-- The reference's rows while row i is being made: x so far. -/
def rowS (l p : List Nat) (i x c : Nat) : Nat := if c < i then rowF l p c p.length else if c = i then x else 0
theorem rowS_zero (l p : List Nat) : List.replicate p.length (Value.int .u64 0) = ((List.range p.length).map (rowS l p 0 0)).map uv := by
  apply List.ext_getElem?
  intro i
  rw [List.getElem?_map, List.getElem?_map, List.getElem?_replicate]
  by_cases hi : i < p.length
  · simp [hi, rowS, uv]
  · simp [hi]
theorem rowS_next (l p : List Nat) (i : Nat) : (List.range p.length).map (rowS l p i (rowF l p i p.length)) = (List.range p.length).map (rowS l p (i + 1) 0) := by
  refine List.map_congr_left fun c _ => ?_
  unfold rowS
  rcases Nat.lt_trichotomy c i with h | h | h
  · rw [if_pos h, if_pos (by omega)]
  · subst h
    rw [if_neg (by omega), if_pos rfl, if_pos (by omega)]
  · rw [if_neg (by omega), if_neg (by omega), if_neg (by omega)]
    split <;> rfl
theorem rowS_set (l p : List Nat) (i x y : Nat) : ((List.range p.length).map (rowS l p i x)).set i y = (List.range p.length).map (rowS l p i y) := by
  rw [map_range_set]
  refine List.map_congr_left fun c _ => ?_
  unfold rowS
  by_cases h : c = i
  · subst h
    rw [if_pos rfl, if_neg (by omega), if_pos rfl]
  · rw [if_neg h, if_neg h, if_neg h]
theorem rowS_end (l p : List Nat) : (List.range p.length).map (rowS l p p.length 0) = foldedL l p := by
  unfold foldedL
  refine List.map_congr_left fun c hc => ?_
  unfold rowS
  rw [if_pos (List.mem_range.1 hc)]
set_option maxHeartbeats 1000000 in
theorem rFoldedRows_any {A : Option Addr} {n c : Nat} (l : List Nat) (w : World) (h1 : Rd w A (l.map uv)) (hl : l.length = n) (hg : Good l) :
    Calls Tryd.prog 61 #[.slice A n c] w (OwnPost 23 (tiedParts l).length ((foldedL l (tiedParts l)).map uv) w) := by
  have H1 := Lib.hid h1
  have HL := Lib.hid hl
  have HG := Lib.hid hg
  have HPB := Lib.hid (rowAt_all (fun s hs => (by obtain ⟨x, _, rfl⟩ := (tp_mem hg s).1 hs; exact tieS_b64 l x hg.1 : B64 s)) : Rows64 (tiedParts l))
  have HPI : Hid (∀ s ∈ tiedParts l, ∀ j, s.testBit j = true → j < n) := Lib.hid (fun s hs j hj => by
    obtain ⟨x, _, rfl⟩ := (tp_mem hg s).1 hs
    have := ((tieS_bit l x _ j).1 hj).1
    omega)
  have hp64 : (tiedParts l).length ≤ 64 := Nat.le_trans (tpI_len l l.length) hg.1
  clear h1 hl hg
  go_enter Tryd.func61, Tryd.ntmps61
  go_wp2_with fail
  refine (rTiedParts_any l _ H1.out HL.out HG.out).mono ?_
  rintro e w1 ⟨A1, c1, rfl, hown, hb1⟩
  have HB1 := Lib.hid hb1
  have HP := Lib.hid (Rd.of_own hown)
  have H1' := Lib.hid (H1.out.below hb1)
  clear hown hb1
  generalize hpp : tiedParts l = p at *
  clear hpp
  have HZ := Lib.hid (rowS_zero l p)
  go_wp2_with (at_make; refine wpList_new elU64 rfl w1 _ w1.heap.size p.length .i64 (by omega) (by omega) (Nat.le_refl _) rfl rfl rfl ?_)
  intro w0 hown0 hb0 hlt0
  rw [HZ.out] at hown0
  have HO0 := Lib.hid hown0
  have HB0 := Lib.hid hb0
  have HLT := Lib.hid hlt0
  clear hown0 hb0 hlt0
  go_wp2_with fail
  go_loopw [16] (fun x wr => ∃ i : Nat, x = .int .i64 (i : Int) ∧ i ≤ p.length ∧ Hid (wr.ownsRow w1.heap.size 23 1 (.slice (some ⟨w1.heap.size, 0, none⟩) p.length p.length) p.length (((List.range p.length).map (rowS l p i 0)).map uv)) ∧ Hid (Below w1.heap.size w1 wr)) (fun x _ => p.length - (intOf x).toNat)
  case atStart => exact ⟨0, rfl, Nat.zero_le _, HO0, HB0⟩
  case round =>
    clear HO0 HB0 HLT
    obtain ⟨i, rfl, hi, hown, hbw⟩ := hrel
    by_cases hlt : i < p.length
    · have HIM : Hid (rowAt p i ∈ p) := Lib.hid (rowAt_mem hlt)
      go_wp2_with fail
      go_loopw [21] (fun x wr => ∃ k : Nat, x = .int .i64 (k : Int) ∧ k ≤ p.length ∧ Hid (wr.ownsRow w1.heap.size 23 1 (.slice (some ⟨w1.heap.size, 0, none⟩) p.length p.length) p.length (((List.range p.length).map (rowS l p i (rowF l p i k))).map uv)) ∧ Hid (Below w1.heap.size w1 wr)) (fun x _ => p.length - (intOf x).toNat)
      case atStart => exact ⟨0, rfl, Nat.zero_le _, hown, hbw⟩
      case round =>
        clear hown hbw
        obtain ⟨k, rfl, hk, hown, hbw⟩ := hrel
        by_cases hkl : k < p.length
        · have HFB := Lib.hid (rowF_b64 l p i (k := k) (by omega))
          obtain ⟨bP, oP, rfl, xp⟩ := (HP.out.below hbw.out).set (k := i) hlt
          go_wp2_with fail
          refine (rNumbers_any (rowAt p i) (HPB.out i) _).mono ?_
          rintro e w2 ⟨A2, c2, rfl, hown2, hb2⟩
          have HO2 := Lib.hid hown2
          have HBL := Lib.hid hbw.out.size
          have HBW2 := Lib.hid (hbw.out.trans (hb2.mono hbw.out.size))
          have HOW2 := Lib.hid (own_below hown.out hb2)
          have HGB := Lib.hid (own_lt0 hown.out)
          have HIN2 : Hid (∀ q ∈ nums (rowAt p i), q < n) := Lib.hid (fun q hq => HPI.out _ HIM.out q ((mem_nums (HPB.out i)).1 hq))
          have hklen := nums_len (rowAt p i)
          clear hown2 hb2 hown hbw xp
          rw [← rowG_nil l p i k] at HOW2
          have HGE := Lib.hid (rowG_end l p i k)
          generalize hks : nums (rowAt p i) = ks at HO2 HIN2 hklen HGE ⊢
          clear hks
          go_wp2_with fail
          go_loopw [30] (fun x wq => ∃ j : Nat, x = .int .i64 (j : Int) ∧ j ≤ ks.length ∧ Hid (wq.ownsRow w1.heap.size 23 1 (.slice (some ⟨w1.heap.size, 0, none⟩) p.length p.length) p.length (((List.range p.length).map (rowS l p i (rowG l p i k (ks.take j)))).map uv)) ∧ Hid (Below w1.heap.size w1 wq) ∧ Hid (wq.ownsRow wr.heap.size 3 1 (.slice A2 ks.length c2) ks.length (ks.map nv))) (fun x _ => ks.length - (intOf x).toNat)
          case atStart => exact ⟨0, rfl, Nat.zero_le _, HOW2, HBW2, HO2⟩
          case round =>
            clear HOW2 HBW2 HO2
            obtain ⟨j, rfl, hj, hown, hbw, hr⟩ := hrel
            by_cases hjl : j < ks.length
            · obtain ⟨q, hkq⟩ : ∃ q, ks[j]? = some q := ⟨ks[j], List.getElem?_eq_getElem hjl⟩
              have hqn : q < n := HIN2.out q (List.mem_of_getElem? hkq)
              have HTK := Lib.hid (take_kid hkq)
              obtain ⟨bK, oK, rfl, xk⟩ := (Rd.of_own hr.out).at_ (k := j) (by simpa using hjl)
              have xk' : wr.cell? ⟨bK, oK + j, none⟩ = some (.int .i64 (q : Nat)) := by
                rw [xk, List.getElem_map]
                rw [List.getElem?_eq_getElem hjl] at hkq
                injection hkq with hkq
                rw [hkq]
                rfl
              obtain ⟨b', o', rfl, xr⟩ := (H1'.out.below hbw.out).set (k := q) (by rw [HL.out]; exact hqn)
              obtain ⟨_, _, he, xp⟩ := (HP.out.below hbw.out).set (k := k) hkl
              cases he
              have e1 := u64_and_nat (rowAt l q) (rowAt p k) (HG.out.b64 q) (HPB.out k)
              clear hkq xk
              have HRB := Lib.hid hr
              by_cases hik : i = k
              · have hg : (((i : Nat) : Int) != ((k : Nat) : Int)) = false := by rw [hik]; simp
                have HR := Lib.hid (rowG_no l p (ks.take j) (n := q) (.inl hik))
                clear hik
                go_wp2_with fail
                go_quiet (fail)
                go_wp2_with fail
                exact ⟨⟨j + 1, val_succ j, hjl, Lib.hid (by rw [HTK.out, ← HR.out]; exact own_drewN hown.out _), Lib.hid (below_drewN hbw.out _), Lib.hid (own_drewN hr.out _)⟩, meas_lt hjl⟩
              · have hg : (((i : Nat) : Int) != ((k : Nat) : Int)) = true := by simp only [bne_iff_ne, ne_eq]; omega
                by_cases hz : rowAt l q &&& rowAt p k = 0
                · have hz' : (((rowAt l q &&& rowAt p k : Nat) : Int) != 0) = false := by rw [hz]; rfl
                  have HR := Lib.hid (rowG_no l p (i := i) (ks.take j) (n := q) (.inr hz))
                  clear hik hz
                  go_wp2_with fail
                  go_quiet (fail)
                  go_wp2_with fail
                  exact ⟨⟨j + 1, val_succ j, hjl, Lib.hid (by rw [HTK.out, ← HR.out]; exact own_drewN hown.out _), Lib.hid (below_drewN hbw.out _), Lib.hid (own_drewN hr.out _)⟩, meas_lt hjl⟩
                · have hz' : (((rowAt l q &&& rowAt p k : Nat) : Int) != 0) = true := by simp only [bne_iff_ne, ne_eq]; omega
                  have HR := Lib.hid (rowG_yes l p (ks.take j) hik hz)
                  clear hik hz
                  go_wp2_with fail
                  go_quiet (fail)
                  have HOZ := Lib.hid (own_drewN hown.out nq)
                  have HBZ := Lib.hid (below_drewN hbw.out nq)
                  have HRZ := Lib.hid (own_drewN hr.out nq)
                  clear hown hbw hr HRB xk' xr xp
                  generalize wr.drewN nq = wz at HOZ HBZ HRZ ⊢
                  have hcq : wz.cell? ⟨w1.heap.size, i, none⟩ = some (.int .u64 (rowG l p i k (ks.take j) : Nat)) := by
                    rw [HOZ.out.cellAt i (by omega)]
                    simp [hlt, uv, rowS]
                  have hfq := HOZ.out.frozenAt i
                  have HGB2 : Hid (B64 (rowG l p i k (ks.take j))) := Lib.hid (by
                    unfold rowG
                    split
                    · exact addN_b64 HFB.out (by omega)
                    · exact HFB.out)
                  have her := or_raw (rowG l p i k (ks.take j)) k HGB2.out (by omega)
                  rw [HR.out] at her
                  generalize hv : rowG l p i k (ks.take j ++ [q]) = v at *
                  have HROW := Lib.hid (HOZ.out.stored i (.int .u64 ((v : Nat) : Int))).1
                  have HBS := Lib.hid (HBZ.out.setCell (p := ⟨w1.heap.size, i, none⟩) (Nat.le_refl _) (.int .u64 ((v : Nat) : Int)))
                  have HRS := Lib.hid (own_far HRZ.out (HOZ.out.stored i (.int .u64 ((v : Nat) : Int))).2 HGB.out)
                  clear HOZ HBZ HRZ
                  go_wp2_with fail
                  go_region
                  go_wp2_with fail
                  refine ⟨⟨j + 1, val_succ j, hjl, Lib.hid ?_, Lib.hid HBS.out.drew, Lib.hid HRS.out.drew⟩, meas_lt hjl⟩
                  have h := HROW.out
                  rw [show (Value.int .u64 ((v : Nat) : Int)) = uv v from rfl, ← List.map_set, rowS_set] at h
                  rw [HTK.out, hv]
                  exact h
            · obtain rfl : j = ks.length := by omega
              rw [List.take_length] at hown
              rw [HGE.out] at hown
              go_wp2_with fail
              exact ⟨⟨k + 1, val_succ k, hkl, hown, hbw⟩, meas_lt hkl⟩
        · obtain rfl : k = p.length := by omega
          rw [rowS_next] at hown
          go_wp2_with fail
          exact ⟨⟨i + 1, val_succ i, hlt, hown, hbw⟩, meas_lt hlt⟩
    · obtain rfl : i = p.length := by omega
      rw [rowS_end] at hown
      go_wp2_with fail
      go_ret
      exact ⟨_, _, rfl, own_base hown.out HB1.out.size, HB1.out.trans (hbw.out.mono HB1.out.size)⟩
end Go.Proofs.YtonmkmghpiagjaaDoor
