/- Contract: the reference's LinesOf. -/
import Derived.Test.YtjdfmmjadjggjaaDoorLn11
namespace Go.Proofs.YtjdfmmjadjggjaaDoor
open Go.RowKit

def totL (ls : List (List UInt8)) : Nat := (ls.map fun l => l.length + 1).sum
theorem totL_lines : ∀ (n : Nat) (s : List UInt8), s.length ≤ n → totL (linesN s) ≤ s.length + 1 := by
  intro n
  induction n with
  | zero =>
    intro s hn
    obtain rfl : s = [] := List.length_eq_zero_iff.1 (by omega)
    rw [linesN_nil]; simp [totL]
  | succ n ih =>
    intro s hn
    by_cases h : s = []
    · subst h; rw [linesN_nil]; simp [totL]
    · rw [linesN_cons h]
      have h1 := backN_len s h
      have h2 := ih (backN s) (by omega)
      have e : totL (frontN s :: linesN (backN s)) = (frontN s).length + 1 + totL (linesN (backN s)) := by simp [totL]
      rw [e]
      rcases index_nl s with ⟨_, a, b⟩ | ⟨i, a0, a, b⟩
      · rw [a, b, linesN_nil]
        simp [totL]
      · have hi : i < s.length := by
          rcases Nat.lt_or_ge i s.length with h' | h'
          · exact h'
          · have := Lib.index_room s [10] (by omega)
            rw [a0] at this
            simp at this
            omega
        rw [a, List.length_take]
        rw [b, List.length_drop] at h2
        rw [b]
        omega
theorem totL_at {ls : List (List UInt8)} {j : Nat} {l : List UInt8} (h : ls[j]? = some l) : totL (ls.drop j) = l.length + 1 + totL (ls.drop (j + 1)) := by
  obtain ⟨hj, hx⟩ := List.getElem?_eq_some_iff.1 h
  rw [List.drop_eq_getElem_cons hj, hx]
  simp [totL]
theorem totL_drop (ls : List (List UInt8)) (j : Nat) : totL (ls.drop j) ≤ totL ls := by
  induction ls generalizing j with
  | nil => simp
  | cons l ls ih =>
    cases j with
    | zero => exact Nat.le_refl _
    | succ j =>
      have e : totL (l :: ls) = l.length + 1 + totL ls := by simp [totL]
      have := ih j
      rw [List.drop_succ_cons, e]
      omega
theorem measJ {n i j : Nat} (h : i ≤ j) (hj : j < n) : n - (intOf (.int .i64 ((j : Int) + 1))).toNat < n - (intOf (.int .i64 (i : Int))).toNat := by
  have h1 : (intOf (.int .i64 ((j : Int) + 1))).toNat = j + 1 := by show ((j : Int) + 1).toNat = j + 1; omega
  have h2 : (intOf (.int .i64 (i : Int))).toNat = i := by show (i : Int).toNat = i; omega
  rw [h1, h2]
  omega
theorem ownL_base {w : World} {B B' : Nat} {e : TypeId} {sz : Nat} {v : Value} {n : Nat} {xs : List Value} (h : w.ownsRow B e sz v n xs) (hB : B' ≤ B) : w.ownsRow B' e sz v n xs := by
  refine ⟨h.1, ?_⟩
  rcases h.2 with h' | ⟨g, cap, cur, h1, h2, h3⟩
  · exact .inl h'
  · exact .inr ⟨g, cap, cur, h1, Nat.le_trans hB h2, h3⟩
theorem totL_len (ls : List (List UInt8)) : ls.length ≤ totL ls := by
  induction ls with
  | nil => exact Nat.le_refl _
  | cons l ls ih =>
    have e : totL (l :: ls) = l.length + 1 + totL ls := by simp [totL]
    rw [e, List.length_cons]
    omega
theorem drop_consL {ls : List (List UInt8)} {j : Nat} {l : List UInt8} (h : ls[j]? = some l) : ls.drop j = l :: ls.drop (j + 1) := by
  obtain ⟨hj, hx⟩ := List.getElem?_eq_some_iff.1 h
  rw [List.drop_eq_getElem_cons hj, hx]
theorem Rd.line {w : World} {A : Option Addr} {l : List (List UInt8)} (h : Rd w A (l.map svL)) {k : Nat} {x : List UInt8} (hk : l[k]? = some x) : ∃ b off, A = some ⟨b, off, none⟩ ∧ w.cell? ⟨b, off + k, none⟩ = some (.string ⟨x.toArray⟩) := by
  obtain ⟨b, off, hA, _, hc⟩ := h (by rw [List.length_map]; have := (List.getElem?_eq_some_iff.1 hk).1; omega)
  exact ⟨b, off, hA, hc k _ (by rw [List.getElem?_map, hk]; rfl)⟩
theorem Rd.takeL {w : World} {A : Option Addr} {xs : List Value} (h : Rd w A xs) (n : Nat) : Rd w A (xs.take n) := by
  intro hn
  obtain ⟨b, off, hA, hb, hc⟩ := h (by rw [List.length_take] at hn; omega)
  refine ⟨b, off, hA, hb, fun j u hu => hc j u ?_⟩
  rw [List.getElem?_take] at hu
  split at hu
  · exact hu
  · cases hu
set_option maxRecDepth 100000 in
set_option maxHeartbeats 4000000 in
theorem rLinesOf_any (s : List UInt8) (w : World) (hl : s.length ≤ 9223372036854775807) :
    Calls Tryd.prog 5 #[.string ⟨s.toArray⟩] w (JoPost s w) := by
  have hsz0 : (⟨s.toArray⟩ : ByteArray).size = s.length := rfl
  by_cases hb : 20000 < s.length
  · have HE : Hid (lnE s = 2) := Lib.hid (by unfold lnE; rw [if_pos hb])
    generalize (⟨s.toArray⟩ : ByteArray) = b at *
    have h2 : 20000 < b.size := by omega
    clear hsz0 hb hl
    go_enter Tryd.func5, Tryd.ntmps5
    go_wp2_with fail
    go_ret2
    exact ⟨Below.refl _ _, .inl ⟨by rw [HE.out]; decide, by rw [HE.out]; rfl⟩⟩
  · have HSP := Lib.hid (rSplit_any s 10 (by omega))
    have HNB := Lib.hid hb
    have HS := Lib.hid (strIs s)
    generalize (⟨s.toArray⟩ : ByteArray) = b at *
    have HSZ := Lib.hid HS.out.size
    have hbs : b.size ≤ 20000 := by omega
    clear hsz0 hb hl
    go_enter Tryd.func5, Tryd.ntmps5
    go_wp2_with fail
    go_loop [15] (fun x => ∃ i : Nat, x = .int .i64 (i : Int) ∧ i ≤ b.size ∧ Hid ((s.take i).any badB = false)) (fun x => b.size - (intOf x).toNat)
    case atStart => exact ⟨0, rfl, by omega, Lib.hid rfl⟩
    case round =>
      obtain ⟨i, rfl, hi, HA⟩ := hrel
      by_cases hlt : i < b.size
      · obtain ⟨d, hd⟩ : ∃ c, c = b[i] := ⟨_, rfl⟩
        have g0 : ∀ h, b[i]'h = d := fun _ => hd.symm
        have HC : Hid (s[i]? = some d) := Lib.hid (by rw [hd]; exact HS.out.at_ hlt)
        have i0 : (i : Int) < (b.size : Int) := by omega
        have hcs := badB_cases d
        have HT := Lib.hid (take_snocL HC.out)
        clear hd
        rcases hcs with ⟨hb, h1⟩ | ⟨hb, h1, h2, h3, h4⟩ | ⟨hb, h1⟩ | ⟨hb, h1⟩ | ⟨hb, h1, h2⟩
        · have HY : Hid (lnE s = 3) := Lib.hid (by unfold lnE; rw [if_neg HNB.out, if_pos (List.any_eq_true.2 ⟨_, List.mem_of_getElem? HC.out, hb⟩)])
          clear hb
          go_wp2_with fail
          go_ret2
          exact ⟨Below.refl _ _, .inl ⟨by rw [HY.out]; decide, by rw [HY.out]; rfl⟩⟩
        · have HY : Hid (lnE s = 3) := Lib.hid (by unfold lnE; rw [if_neg HNB.out, if_pos (List.any_eq_true.2 ⟨_, List.mem_of_getElem? HC.out, hb⟩)])
          have k9 : ((d.toNat : Int) != 9) = true := neK h3
          have k10 : ((d.toNat : Int) != 10) = true := neK h4
          clear hb h3 h4
          go_wp2_with fail
          go_ret2
          exact ⟨Below.refl _ _, .inl ⟨by rw [HY.out]; decide, by rw [HY.out]; rfl⟩⟩
        all_goals
          have HA2 : Hid ((s.take (i + 1)).any badB = false) := Lib.hid (by rw [HT.out, List.any_append, HA.out]; simp [hb])
          clear hb
        · subst h1
          go_wp2_with fail
          exact ⟨⟨i + 1, rfl, by omega, HA2⟩, measL hlt⟩
        · subst h1
          go_wp2_with fail
          exact ⟨⟨i + 1, rfl, by omega, HA2⟩, measL hlt⟩
        · have l1 : ¬ 126 < d.toNat := by omega
          have l2 : ¬ d.toNat < 32 := by omega
          clear h1 h2
          go_wp2_with fail
          exact ⟨⟨i + 1, rfl, by omega, HA2⟩, measL hlt⟩
      · have hie : i = b.size := by omega
        subst hie
        have HE : Hid (lnE s = 0) := Lib.hid (by
          have h := HA.out
          rw [List.take_of_length_le (by rw [HSZ.out]; exact Nat.le_refl _)] at h
          unfold lnE
          rw [if_neg HNB.out, h]
          rfl)
        go_wp2_with fail
        refine (HSP.out _).mono ?_
        rintro e w1 ⟨g, kc, X, U, hsp, rfl, hown, hXl, hb1⟩
        have HLN : Hid (linesN s = spEnd (X, U)) := Lib.hid (by rw [← lines_sp, hsp])
        obtain ⟨g', hg', _, hcl, _, _⟩ := own_last hown rfl
        injection hg' with hg'
        injection hg' with hg' _ _
        subst hg'
        have HRX := Lib.hid (Rd.of_own hown)
        have HB1 := Lib.hid hb1
        have hxl : X.length ≤ 20000 := by have := HSZ.out; omega
        have hkc : X.length + 1 ≤ kc := by
          rcases hown.2 with ⟨_, h0⟩ | ⟨_, cap, _, hv, _, _, hnc, _⟩
          · omega
          · injection hv with _ _ hc; subst hc; exact hnc
        clear hsp hown hb1 hXl
        unfold svL at hcl
        by_cases hU : U = []
        · subst hU
          have HLX : Hid (linesN s = X) := Lib.hid (by rw [HLN.out]; rfl)
          have HRL : Hid (Rd w1 (some ⟨g, 0, none⟩) ((linesN s).map svL)) := Lib.hid (by
            have h := HRX.out.takeL X.length
            rw [HLX.out]
            rw [List.map_append, List.take_left' (by simp)] at h
            exact h)
          have HNL : Hid ((linesN s).length = X.length) := Lib.hid (by rw [HLX.out])
          have hq1 : (X.length : Int) < (X.length : Int) + 1 := by omega
          go_upto_region 12 with fail
          have HCELL : Hid (∀ j x, (linesN s)[j]? = some x → ∀ W, Below w1.heap.size w1 W → W.cell? ⟨g, j, none⟩ = some (.string ⟨x.toArray⟩)) := Lib.hid (by
            intro j x hx W hW
            obtain ⟨b', off, hA, hc⟩ := HRL.out.line hx
            have hlt := lt_of_cell' hc
            injection hA with hA
            injection hA with hA1 hA2 _
            subst hA1 hA2
            rw [Nat.zero_add] at hc
            exact (hW.cell (p := ⟨_, j, none⟩) hlt).trans hc)
          have HTOT : Hid (totL (linesN s) ≤ 20001) := Lib.hid (by have h := totL_lines _ s (Nat.le_refl _); have h2 := HSZ.out; omega)
          clear hcl HRX HRL
          have hkc2 : X.length ≤ 20001 := by omega
          generalize hls : linesN s = ls at *
          have HLS := Lib.hid hls
          clear hls
          go_wp2_with fail
          go_loopw [6, 7] (fun x y wr => ∃ (L : List (Nat × List UInt8)) (A : Option Addr) (n c i : Nat), x = .slice A n c ∧ y = .int .i64 (i : Int) ∧ i ≤ X.length ∧ n ≤ i ∧ Hid (L.length = n) ∧ Hid (joinL 0 ls = L ++ joinL i (ls.drop i)) ∧ Hid (wr.ownsRow w1.heap.size 34 2 (.slice A n c) n (lnV L)) ∧ Hid (Below w1.heap.size w1 wr)) (fun _ y _ => X.length - (intOf y).toNat)
          case atStart => exact ⟨[], none, 0, 0, 0, rfl, rfl, by omega, Nat.le_refl _, Lib.hid rfl, Lib.hid rfl, Lib.hid (World.ownsRow_nil _ _ _ _), Lib.hid (Below.refl _ _)⟩
          case round =>
            obtain ⟨L, A, n, c, i, rfl, rfl, hi, hni, HL, HJ, HO, HB⟩ := hrel
            by_cases hlt : i < X.length
            · have hltI : (i : Int) < (X.length : Int) := by omega
              obtain ⟨l, hl⟩ : ∃ l, ls[i]? = some l := ⟨_, List.getElem?_eq_getElem (by rw [HNL.out]; exact hlt)⟩
              have HLL := Lib.hid hl
              have hca := HCELL.out i l hl wr HB.out
              have HBK0 := Lib.hid (show Blk (wr.alloc (.cells #[.int .i64 ((i : Int) + 1), .string ⟨l.toArray⟩] 34)) wr.heap.size 34 [.int .i64 ((i : Int) + 1), .string ⟨l.toArray⟩] from Blk.new wr _ _)
              have HB0 := Lib.hid (below_newL (Below.refl wr.heap.size wr) (Below.alloc (Below.refl _ _) (Nat.le_refl _) (.cells #[.int .i64 ((i : Int) + 1), .string ⟨l.toArray⟩] 34)))
              clear hl
              go_upto_region 17 with fail
              generalize wr.alloc (.cells #[.int .i64 ((i : Int) + 1), .string ⟨l.toArray⟩] 34) = wb at *
              obtain ⟨wo, hwo⟩ : ∃ wo : World, wo = wr := ⟨_, rfl⟩
              subst hwo
              go_loopw [7] (fun x wi => ∃ (T : List UInt8) (j : Nat), x = .int .i64 (j : Int) ∧ i ≤ j ∧ j < X.length ∧ T.length ≤ 20001 ∧ Hid (Blk wi wo.heap.size 34 [.int .i64 ((i : Int) + 1), .string ⟨T.toArray⟩]) ∧ Hid (Below wo.heap.size wo wi) ∧ Hid (contL l (ls.drop (i + 1)) = contL T (ls.drop (j + 1)) ∧ T.length + totL (ls.drop (j + 1)) ≤ 20001)) (fun x _ => X.length - (intOf x).toNat)
              case atStart => exact ⟨l, i, rfl, Nat.le_refl _, hlt, by have h1 := totL_at HLL.out; have h2 := totL_drop ls i; have h3 := HTOT.out; omega, HBK0, HB0, Lib.hid ⟨rfl, by have h1 := totL_at HLL.out; have h2 := totL_drop ls i; have h3 := HTOT.out; omega⟩⟩
              case round =>
                obtain ⟨T, j, rfl, hij, hj, hT, HBK, HBW, HQ⟩ := hrel
                have hc0 := HBK.out.cell (j := 0) rfl
                have hc1 := HBK.out.cell (j := 1) rfl
                by_cases h0 : T = []
                · have hte : T.isEmpty = true := by rw [h0]; rfl
                  have HEX : Hid (contL l (ls.drop (i + 1)) = (T, ls.drop (j + 1))) := Lib.hid (by rw [HQ.out.1, contL_end (by rw [h0]; rfl)])
                  clear h0
                  have HSC := Lib.hid (rAside_any T (by omega) wr)
                  go_wp2_with fail
                  refine HSC.out.mono ?_
                  rintro e w9 ⟨rfl, rfl⟩
                  have hf1 := HBK.out.free 1
                  have HK10 := Lib.hid (HBK.out.same 1 (.string ⟨(asideL T).toArray⟩))
                  have HB10 := Lib.hid (HBW.out.setCell (p := ⟨wo.heap.size, 1, none⟩) (Nat.le_refl _) (.string ⟨(asideL T).toArray⟩))
                  go_upto_region 26 with fail
                  generalize wr.setCell ⟨wo.heap.size, 1, none⟩ (.string ⟨(asideL T).toArray⟩) = w10 at *
                  clear hc0 hc1 hf1
                  have HO10 := Lib.hid (own_belowL HO.out HB10.out)
                  have HBB := Lib.hid (below_newL HB.out HB10.out)
                  have hzz := HBB.out.size
                  have hc0 := HK10.out.cell (j := 0) rfl
                  have hc1 := HK10.out.cell (j := 1) rfl
                  have HJ2 : Hid (joinL 0 ls = L ++ ((if asideL T = [] then [] else [(i + 1, asideL T)]) ++ joinL (j + 1) (ls.drop (j + 1)))) := Lib.hid (by
                    have e : i + 1 + ((ls.drop (i + 1)).length - (ls.drop (j + 1)).length) = j + 1 := by rw [List.length_drop, List.length_drop, HNL.out]; omega
                    rw [HJ.out, drop_consL HLL.out, joinL_cons, HEX.out, e])
                  by_cases ha : asideL T = []
                  · have hae : (asideL T).isEmpty = true := by rw [ha]; rfl
                    have HJ3 : Hid (joinL 0 ls = L ++ joinL (j + 1) (ls.drop (j + 1))) := Lib.hid (by rw [HJ2.out, if_pos ha]; rfl)
                    clear ha
                    go_wp2_with fail
                    exact ⟨⟨L, A, n, c, j + 1, rfl, rfl, by omega, by omega, HL, HJ3, HO10, HBB⟩, measJ hij hj⟩
                  · have hae : (asideL T).isEmpty = false := by cases hq : asideL T with
                      | nil => exact absurd hq ha
                      | cons a l => rfl
                    have HJ3 : Hid (joinL 0 ls = (L ++ [(i + 1, asideL T)]) ++ joinL (j + 1) (ls.drop (j + 1))) := Lib.hid (by rw [HJ2.out, if_neg ha, List.append_assoc])
                    have hn24 : (n + 1) * 24 ≤ 140737488355328 := by omega
                    clear ha
                    go_wp2_with (at_builtin; refine wpList_pushLn w10 _ _ w1.heap.size A n c L (i + 1, asideL T) _ rfl HO10.out hzz hn24 rfl rfl rfl rfl ?_; intro g5 c5 w5 hown5 hb5)
                    exact ⟨⟨L ++ [(i + 1, asideL T)], some ⟨g5, 0, none⟩, n + 1, c5, j + 1, rfl, rfl, by omega, by omega, Lib.hid (by simp [HL.out]), HJ3, Lib.hid hown5, Lib.hid (HBB.out.trans hb5)⟩, measJ hij hj⟩
                · obtain ⟨u, d, rfl⟩ := snoc_of h0
                  have HS1 := Lib.hid (strIs (u ++ [d]))
                  have hsz : (⟨(u ++ [d]).toArray⟩ : ByteArray).size = u.length + 1 := by rw [HS1.out.size]; simp
                  have hul : u.length ≤ 20000 := by simp at hT; omega
                  have HD : Hid ((⟨(u ++ [d]).toArray⟩ : ByteArray).toList.isEmpty = false) := Lib.hid (by rw [Lib.toList_data]; simp)
                  have hsl := ext_takeL HS1.out u.length
                  rw [List.take_left' rfl] at hsl
                  have HDB : Hid ((u ++ [d]).isEmpty = false) := Lib.hid (by simp)
                  clear h0
                  by_cases hd : d = 92
                  · subst hd
                    have HE2 : Hid (endsB (u ++ [92]) = true) := Lib.hid (by unfold endsB; simp)
                    have hus : (⟨u.toArray⟩ : ByteArray).size = u.length := rfl
                    clear HDB
                    generalize (⟨(u ++ [92]).toArray⟩ : ByteArray) = bu at *
                    generalize hbs : (⟨u.toArray⟩ : ByteArray) = bs at *
                    have HBS := Lib.hid hbs
                    clear hbs
                    have g1 : ∀ h, bu[u.length]'h = 92 := fun h => last_at HS1.out h
                    have e1 : (bu.size : Int) - 1 = (u.length : Int) := by omega
                    have l1 : (u.length : Int) < (bu.size : Int) := by omega
                    have l2 : u.length < bu.size := by omega
                    have l3 : u.length ≤ bu.size := by omega
                    have he := HD.out
                    have hf1 := HBK.out.free 1
                    have HK8 := Lib.hid (HBK.out.same 1 (.string bs))
                    have HB8 := Lib.hid (HBW.out.setCell (p := ⟨wo.heap.size, 1, none⟩) (Nat.le_refl _) (.string bs))
                    go_upto_region 19 with fail
                    generalize wr.setCell ⟨wo.heap.size, 1, none⟩ (.string bs) = w8 at *
                    clear hc0 hc1 hf1 g1 hsl
                    have hc0 := HK8.out.cell (j := 0) rfl
                    have hc1 := HK8.out.cell (j := 1) rfl
                    have HBK := HK8
                    have HBW := HB8
                    by_cases hend : j + 1 = X.length
                    · have HEX : Hid (contL l (ls.drop (i + 1)) = (u, ls.drop (j + 1))) := Lib.hid (by
                        rw [HQ.out.1, List.drop_eq_nil_of_le (by rw [HNL.out]; omega), contL, HE2.out, if_pos rfl, List.dropLast_concat])
                      have hendI : ((j : Int) + 1 == ((X.length : Int))) = true := by simp; omega
                      have HSC := Lib.hid (rAside_any u (by omega) w8)
                      rw [HBS.out] at HSC
                      go_wp2_with fail
                      refine HSC.out.mono ?_
                      rintro e w9 ⟨rfl, rfl⟩
                      have hf1 := HBK.out.free 1
                      have HK10 := Lib.hid (HBK.out.same 1 (.string ⟨(asideL u).toArray⟩))
                      have HB10 := Lib.hid (HBW.out.setCell (p := ⟨wo.heap.size, 1, none⟩) (Nat.le_refl _) (.string ⟨(asideL u).toArray⟩))
                      go_upto_region 26 with fail
                      generalize w8.setCell ⟨wo.heap.size, 1, none⟩ (.string ⟨(asideL u).toArray⟩) = w10 at *
                      clear hc0 hc1 hf1
                      have HO10 := Lib.hid (own_belowL HO.out HB10.out)
                      have HBB := Lib.hid (below_newL HB.out HB10.out)
                      have hzz := HBB.out.size
                      have hc0 := HK10.out.cell (j := 0) rfl
                      have hc1 := HK10.out.cell (j := 1) rfl
                      have HJ2 : Hid (joinL 0 ls = L ++ ((if asideL u = [] then [] else [(i + 1, asideL u)]) ++ joinL (j + 1) (ls.drop (j + 1)))) := Lib.hid (by
                        have e : i + 1 + ((ls.drop (i + 1)).length - (ls.drop (j + 1)).length) = j + 1 := by rw [List.length_drop, List.length_drop, HNL.out]; omega
                        rw [HJ.out, drop_consL HLL.out, joinL_cons, HEX.out, e])
                      by_cases ha : asideL u = []
                      · have hae : (asideL u).isEmpty = true := by rw [ha]; rfl
                        have HJ3 : Hid (joinL 0 ls = L ++ joinL (j + 1) (ls.drop (j + 1))) := Lib.hid (by rw [HJ2.out, if_pos ha]; rfl)
                        clear ha
                        go_wp2_with fail
                        exact ⟨⟨L, A, n, c, j + 1, rfl, rfl, by omega, by omega, HL, HJ3, HO10, HBB⟩, measJ hij hj⟩
                      · have hae : (asideL u).isEmpty = false := by cases hq : asideL u with
                          | nil => exact absurd hq ha
                          | cons a l => rfl
                        have HJ3 : Hid (joinL 0 ls = (L ++ [(i + 1, asideL u)]) ++ joinL (j + 1) (ls.drop (j + 1))) := Lib.hid (by rw [HJ2.out, if_neg ha, List.append_assoc])
                        have hn24 : (n + 1) * 24 ≤ 140737488355328 := by omega
                        clear ha
                        go_wp2_with (at_builtin; refine wpList_pushLn w10 _ _ w1.heap.size A n c L (i + 1, asideL u) _ rfl HO10.out hzz hn24 rfl rfl rfl rfl ?_; intro g5 c5 w5 hown5 hb5)
                        exact ⟨⟨L ++ [(i + 1, asideL u)], some ⟨g5, 0, none⟩, n + 1, c5, j + 1, rfl, rfl, by omega, by omega, Lib.hid (by simp [HL.out]), HJ3, Lib.hid hown5, Lib.hid (HBB.out.trans hb5)⟩, measJ hij hj⟩
                    · have hlt2 : j + 1 < X.length := by omega
                      have hlt2I : (j : Int) + 1 < (X.length : Int) := by omega
                      have hendI : ((j : Int) + 1 == ((X.length : Int))) = false := by simp; omega
                      obtain ⟨l2, hl2⟩ : ∃ l2, ls[j + 1]? = some l2 := ⟨_, List.getElem?_eq_getElem (by rw [HNL.out]; exact hlt2)⟩
                      have HDR := Lib.hid (drop_consL hl2)
                      have HTA := Lib.hid (totL_at hl2)
                      have hll2 : l2.length + u.length ≤ 20001 := by
                        have h1 := HTA.out
                        have h2 := HQ.out.2
                        simp only [List.length_append, List.length_singleton] at h2
                        omega
                      have hf1 := HK8.out.free 1
                      have hca2 := HCELL.out (j + 1) l2 hl2 w8 (below_newL HB.out HBW.out)
                      have HQ3 : Hid (contL l (ls.drop (i + 1)) = contL (u ++ [32] ++ trimLL l2) (ls.drop (j + 1 + 1)) ∧ (u ++ [32] ++ trimLL l2).length + totL (ls.drop (j + 1 + 1)) ≤ 20001) := Lib.hid (by
                        have h1 := HTA.out
                        have h2 := HQ.out.2
                        have h3 := trimLL_le l2
                        rw [HQ.out.1, HDR.out, contL, HE2.out, if_pos rfl, List.dropLast_concat]
                        refine ⟨rfl, ?_⟩
                        simp only [List.length_append, List.length_singleton] at h2 ⊢
                        omega)
                      have hl4 : (u ++ [32] ++ trimLL l2).length ≤ 20001 := by have := HQ3.out.2; omega
                      clear hl2
                      go_wp2_with fail
                      go_loop [9] (fun x => ∃ t : List UInt8, x = .string ⟨t.toArray⟩ ∧ t.length ≤ l2.length ∧ Hid (trimLL l2 = trimLL t)) (fun x => strLenL x)
                      case atStart => exact ⟨l2, rfl, Nat.le_refl _, Lib.hid rfl⟩
                      case round =>
                        obtain ⟨t, rfl, ht, HT⟩ := hrel
                        cases t with
                        | nil =>
                          have HTE : Hid (trimLL l2 = []) := Lib.hid (by rw [HT.out]; rfl)
                          have HCA : Hid (bs ++ ((⟨#[32]⟩ : ByteArray) ++ ⟨#[]⟩) = ⟨(u ++ [32] ++ trimLL l2).toArray⟩) := Lib.hid (by
                            have e1 := cat_bytesL [32] []
                            have e2 := cat_bytesL u ([32] ++ [])
                            rw [HTE.out, ← HBS.out, List.append_assoc]
                            exact (congrArg ((⟨u.toArray⟩ : ByteArray) ++ ·) e1).trans e2)
                          go_upto_region 24 with fail
                          have HK9 := Lib.hid (HBK.out.same 1 (.string (bs ++ (⟨#[32]⟩ ++ ⟨#[]⟩))))
                          have HB9 := Lib.hid (HBW.out.setCell (p := ⟨wo.heap.size, 1, none⟩) (Nat.le_refl _) (.string (bs ++ (⟨#[32]⟩ ++ ⟨#[]⟩))))
                          have HK10 : Hid (Blk (w8.setCell ⟨wo.heap.size, 1, none⟩ (.string (bs ++ (⟨#[32]⟩ ++ ⟨#[]⟩)))) wo.heap.size 34 [.int .i64 ((i : Int) + 1), .string ⟨(u ++ [32] ++ trimLL l2).toArray⟩]) := Lib.hid (by
                            have h := HK9.out
                            generalize w8.setCell ⟨wo.heap.size, 1, none⟩ (.string (bs ++ (⟨#[32]⟩ ++ ⟨#[]⟩))) = wz at h ⊢
                            rw [HCA.out] at h
                            exact h)
                          clear HK9
                          go_wp2_with fail
                          exact ⟨⟨u ++ [32] ++ trimLL l2, j + 1, rfl, by omega, hlt2, hl4, HK10, HB9, HQ3⟩, measJ (Nat.le_refl j) hj⟩
                        | cons c2 t' =>
                          have g0 : ∀ h, (⟨(c2 :: t').toArray⟩ : ByteArray)[0]'h = c2 := fun _ => rfl
                          have hsl2 := ext_tail c2 t'
                          cases hb : blankB c2 with
                          | true =>
                            have HBL := Lib.hid (fun W => rBlank_is c2 W hb)
                            have HT2 : Hid (trimLL l2 = trimLL t') := Lib.hid (by rw [HT.out, trimLL_cons, hb]; rfl)
                            have hl3 : t'.length + 1 ≤ l2.length := by simpa using ht
                            clear hb ht
                            go_wp2_with fail
                            refine (HBL.out _).mono ?_
                            rintro e w2 ⟨rfl, rfl⟩
                            go_wp2_with fail
                            exact ⟨⟨t', rfl, by omega, HT2⟩, Nat.lt_succ_self _⟩
                          | false =>
                            have HBL := Lib.hid (fun W => rBlank_is c2 W hb)
                            have HTE : Hid (trimLL l2 = c2 :: t') := Lib.hid (by rw [HT.out, trimLL_cons, hb]; rfl)
                            have HCA : Hid (bs ++ ((⟨#[32]⟩ : ByteArray) ++ ⟨(c2 :: t').toArray⟩) = ⟨(u ++ [32] ++ trimLL l2).toArray⟩) := Lib.hid (by
                              have e1 := cat_bytesL [32] (c2 :: t')
                              have e2 := cat_bytesL u ([32] ++ (c2 :: t'))
                              rw [HTE.out, ← HBS.out, List.append_assoc]
                              exact (congrArg ((⟨u.toArray⟩ : ByteArray) ++ ·) e1).trans e2)
                            have hbt : (⟨(c2 :: t').toArray⟩ : ByteArray).size ≤ 20001 := by show (c2 :: t').length ≤ 20001; omega
                            clear hb
                            go_wp2_with fail
                            refine (HBL.out _).mono ?_
                            rintro e w2 ⟨rfl, rfl⟩
                            clear g0 hsl2
                            generalize (⟨(c2 :: t').toArray⟩ : ByteArray) = bt at *
                            have HK9 := Lib.hid (HBK.out.same 1 (.string (bs ++ (⟨#[32]⟩ ++ bt))))
                            have HB9 := Lib.hid (HBW.out.setCell (p := ⟨wo.heap.size, 1, none⟩) (Nat.le_refl _) (.string (bs ++ (⟨#[32]⟩ ++ bt))))
                            have HK10 : Hid (Blk (w8.setCell ⟨wo.heap.size, 1, none⟩ (.string (bs ++ (⟨#[32]⟩ ++ bt)))) wo.heap.size 34 [.int .i64 ((i : Int) + 1), .string ⟨(u ++ [32] ++ trimLL l2).toArray⟩]) := Lib.hid (by
                              have h := HK9.out
                              generalize w8.setCell ⟨wo.heap.size, 1, none⟩ (.string (bs ++ (⟨#[32]⟩ ++ bt))) = wz at h ⊢
                              rw [HCA.out] at h
                              exact h)
                            clear HK9
                            go_wp2_with fail
                            exact ⟨⟨u ++ [32] ++ trimLL l2, j + 1, rfl, by omega, hlt2, hl4, HK10, HB9, HQ3⟩, measJ (Nat.le_refl j) hj⟩
                  · have kd : ((d.toNat : Int) == 92) = false := eqK hd
                    have HEX : Hid (contL l (ls.drop (i + 1)) = (u ++ [d], ls.drop (j + 1))) := Lib.hid (by rw [HQ.out.1, contL_end (by unfold endsB; simp [hd])])
                    clear hd
                    have HBKo := HBK
                    have HSC := Lib.hid (rAside_any (u ++ [d]) (by omega) wr)
                    generalize (⟨(u ++ [d]).toArray⟩ : ByteArray) = bu at *
                    have g1 : ∀ h, bu[u.length]'h = d := fun h => last_at HS1.out h
                    have e1 : (bu.size : Int) - 1 = (u.length : Int) := by omega
                    have l1 : (u.length : Int) < (bu.size : Int) := by omega
                    have l2 : u.length < bu.size := by omega
                    have he := HD.out
                    have hq1 := HDB.out
                    go_wp2_with fail
                    refine HSC.out.mono ?_
                    rintro e w9 ⟨rfl, rfl⟩
                    have hf1 := HBK.out.free 1
                    have HK10 := Lib.hid (HBK.out.same 1 (.string ⟨(asideL (u ++ [d])).toArray⟩))
                    have HB10 := Lib.hid (HBW.out.setCell (p := ⟨wo.heap.size, 1, none⟩) (Nat.le_refl _) (.string ⟨(asideL (u ++ [d])).toArray⟩))
                    go_upto_region 26 with fail
                    generalize wr.setCell ⟨wo.heap.size, 1, none⟩ (.string ⟨(asideL (u ++ [d])).toArray⟩) = w10 at *
                    clear hc0 hc1 hf1
                    have HO10 := Lib.hid (own_belowL HO.out HB10.out)
                    have HBB := Lib.hid (below_newL HB.out HB10.out)
                    have hzz := HBB.out.size
                    have hc0 := HK10.out.cell (j := 0) rfl
                    have hc1 := HK10.out.cell (j := 1) rfl
                    have HJ2 : Hid (joinL 0 ls = L ++ ((if asideL (u ++ [d]) = [] then [] else [(i + 1, asideL (u ++ [d]))]) ++ joinL (j + 1) (ls.drop (j + 1)))) := Lib.hid (by
                      have e : i + 1 + ((ls.drop (i + 1)).length - (ls.drop (j + 1)).length) = j + 1 := by rw [List.length_drop, List.length_drop, HNL.out]; omega
                      rw [HJ.out, drop_consL HLL.out, joinL_cons, HEX.out, e])
                    by_cases ha : asideL (u ++ [d]) = []
                    · have hae : (asideL (u ++ [d])).isEmpty = true := by rw [ha]; rfl
                      have HJ3 : Hid (joinL 0 ls = L ++ joinL (j + 1) (ls.drop (j + 1))) := Lib.hid (by rw [HJ2.out, if_pos ha]; rfl)
                      clear ha
                      go_wp2_with fail
                      exact ⟨⟨L, A, n, c, j + 1, rfl, rfl, by omega, by omega, HL, HJ3, HO10, HBB⟩, measJ hij hj⟩
                    · have hae : (asideL (u ++ [d])).isEmpty = false := by cases hq : asideL (u ++ [d]) with
                        | nil => exact absurd hq ha
                        | cons a l => rfl
                      have HJ3 : Hid (joinL 0 ls = (L ++ [(i + 1, asideL (u ++ [d]))]) ++ joinL (j + 1) (ls.drop (j + 1))) := Lib.hid (by rw [HJ2.out, if_neg ha, List.append_assoc])
                      have hn24 : (n + 1) * 24 ≤ 140737488355328 := by omega
                      clear ha
                      go_wp2_with (at_builtin; refine wpList_pushLn w10 _ _ w1.heap.size A n c L (i + 1, asideL (u ++ [d])) _ rfl HO10.out hzz hn24 rfl rfl rfl rfl ?_; intro g5 c5 w5 hown5 hb5)
                      exact ⟨⟨L ++ [(i + 1, asideL (u ++ [d]))], some ⟨g5, 0, none⟩, n + 1, c5, j + 1, rfl, rfl, by omega, by omega, Lib.hid (by simp [HL.out]), HJ3, Lib.hid hown5, Lib.hid (HBB.out.trans hb5)⟩, measJ hij hj⟩
            · have hie : i = X.length := by omega
              subst hie
              have HJE : Hid (joinL 0 ls = L) := Lib.hid (by rw [HJ.out, List.drop_eq_nil_of_le (by rw [HNL.out]; exact Nat.le_refl _), joinL_nil, List.append_nil])
              go_wp2_with fail
              go_ret2
              exact ⟨(HB1.out.trans (HB.out.mono HB1.out.size)), .inr ⟨A, n, c, HE.out, by rw [HLS.out, HJE.out, HL.out], by rw [HLS.out, HJE.out]; exact ownL_base HO.out HB1.out.size, rfl⟩⟩
        · have HLX : Hid (linesN s = X ++ [U]) := Lib.hid (by rw [HLN.out]; unfold spEnd; rw [if_neg hU])
          have HNL : Hid ((linesN s).length = X.length + 1) := Lib.hid (by rw [HLX.out]; simp)
          have HRL : Hid (Rd w1 (some ⟨g, 0, none⟩) ((linesN s).map svL)) := Lib.hid (by rw [HLX.out]; exact HRX.out)
          have hue : U.isEmpty = false := by cases hq : U with
            | nil => exact absurd hq hU
            | cons a l => rfl
          clear hU
          go_upto_region 12 with fail
          have HCELL : Hid (∀ j x, (linesN s)[j]? = some x → ∀ W, Below w1.heap.size w1 W → W.cell? ⟨g, j, none⟩ = some (.string ⟨x.toArray⟩)) := Lib.hid (by
            intro j x hx W hW
            obtain ⟨b', off, hA, hc⟩ := HRL.out.line hx
            have hlt := lt_of_cell' hc
            injection hA with hA
            injection hA with hA1 hA2 _
            subst hA1 hA2
            rw [Nat.zero_add] at hc
            exact (hW.cell (p := ⟨_, j, none⟩) hlt).trans hc)
          have HTOT : Hid (totL (linesN s) ≤ 20001) := Lib.hid (by have h := totL_lines _ s (Nat.le_refl _); have h2 := HSZ.out; omega)
          clear hcl HRX HRL
          have hkc2 : (X.length + 1) ≤ 20001 := by omega
          generalize hls : linesN s = ls at *
          have HLS := Lib.hid hls
          clear hls
          go_wp2_with fail
          go_loopw [6, 7] (fun x y wr => ∃ (L : List (Nat × List UInt8)) (A : Option Addr) (n c i : Nat), x = .slice A n c ∧ y = .int .i64 (i : Int) ∧ i ≤ (X.length + 1) ∧ n ≤ i ∧ Hid (L.length = n) ∧ Hid (joinL 0 ls = L ++ joinL i (ls.drop i)) ∧ Hid (wr.ownsRow w1.heap.size 34 2 (.slice A n c) n (lnV L)) ∧ Hid (Below w1.heap.size w1 wr)) (fun _ y _ => (X.length + 1) - (intOf y).toNat)
          case atStart => exact ⟨[], none, 0, 0, 0, rfl, rfl, by omega, Nat.le_refl _, Lib.hid rfl, Lib.hid rfl, Lib.hid (World.ownsRow_nil _ _ _ _), Lib.hid (Below.refl _ _)⟩
          case round =>
            obtain ⟨L, A, n, c, i, rfl, rfl, hi, hni, HL, HJ, HO, HB⟩ := hrel
            by_cases hlt : i < (X.length + 1)
            · have hltI : (i : Int) < ((X.length : Int) + 1) := by omega
              obtain ⟨l, hl⟩ : ∃ l, ls[i]? = some l := ⟨_, List.getElem?_eq_getElem (by rw [HNL.out]; exact hlt)⟩
              have HLL := Lib.hid hl
              have hca := HCELL.out i l hl wr HB.out
              have HBK0 := Lib.hid (show Blk (wr.alloc (.cells #[.int .i64 ((i : Int) + 1), .string ⟨l.toArray⟩] 34)) wr.heap.size 34 [.int .i64 ((i : Int) + 1), .string ⟨l.toArray⟩] from Blk.new wr _ _)
              have HB0 := Lib.hid (below_newL (Below.refl wr.heap.size wr) (Below.alloc (Below.refl _ _) (Nat.le_refl _) (.cells #[.int .i64 ((i : Int) + 1), .string ⟨l.toArray⟩] 34)))
              clear hl
              go_upto_region 17 with fail
              generalize wr.alloc (.cells #[.int .i64 ((i : Int) + 1), .string ⟨l.toArray⟩] 34) = wb at *
              obtain ⟨wo, hwo⟩ : ∃ wo : World, wo = wr := ⟨_, rfl⟩
              subst hwo
              go_loopw [7] (fun x wi => ∃ (T : List UInt8) (j : Nat), x = .int .i64 (j : Int) ∧ i ≤ j ∧ j < (X.length + 1) ∧ T.length ≤ 20001 ∧ Hid (Blk wi wo.heap.size 34 [.int .i64 ((i : Int) + 1), .string ⟨T.toArray⟩]) ∧ Hid (Below wo.heap.size wo wi) ∧ Hid (contL l (ls.drop (i + 1)) = contL T (ls.drop (j + 1)) ∧ T.length + totL (ls.drop (j + 1)) ≤ 20001)) (fun x _ => (X.length + 1) - (intOf x).toNat)
              case atStart => exact ⟨l, i, rfl, Nat.le_refl _, hlt, by have h1 := totL_at HLL.out; have h2 := totL_drop ls i; have h3 := HTOT.out; omega, HBK0, HB0, Lib.hid ⟨rfl, by have h1 := totL_at HLL.out; have h2 := totL_drop ls i; have h3 := HTOT.out; omega⟩⟩
              case round =>
                obtain ⟨T, j, rfl, hij, hj, hT, HBK, HBW, HQ⟩ := hrel
                have hc0 := HBK.out.cell (j := 0) rfl
                have hc1 := HBK.out.cell (j := 1) rfl
                by_cases h0 : T = []
                · have hte : T.isEmpty = true := by rw [h0]; rfl
                  have HEX : Hid (contL l (ls.drop (i + 1)) = (T, ls.drop (j + 1))) := Lib.hid (by rw [HQ.out.1, contL_end (by rw [h0]; rfl)])
                  clear h0
                  have HSC := Lib.hid (rAside_any T (by omega) wr)
                  go_wp2_with fail
                  refine HSC.out.mono ?_
                  rintro e w9 ⟨rfl, rfl⟩
                  have hf1 := HBK.out.free 1
                  have HK10 := Lib.hid (HBK.out.same 1 (.string ⟨(asideL T).toArray⟩))
                  have HB10 := Lib.hid (HBW.out.setCell (p := ⟨wo.heap.size, 1, none⟩) (Nat.le_refl _) (.string ⟨(asideL T).toArray⟩))
                  go_upto_region 26 with fail
                  generalize wr.setCell ⟨wo.heap.size, 1, none⟩ (.string ⟨(asideL T).toArray⟩) = w10 at *
                  clear hc0 hc1 hf1
                  have HO10 := Lib.hid (own_belowL HO.out HB10.out)
                  have HBB := Lib.hid (below_newL HB.out HB10.out)
                  have hzz := HBB.out.size
                  have hc0 := HK10.out.cell (j := 0) rfl
                  have hc1 := HK10.out.cell (j := 1) rfl
                  have HJ2 : Hid (joinL 0 ls = L ++ ((if asideL T = [] then [] else [(i + 1, asideL T)]) ++ joinL (j + 1) (ls.drop (j + 1)))) := Lib.hid (by
                    have e : i + 1 + ((ls.drop (i + 1)).length - (ls.drop (j + 1)).length) = j + 1 := by rw [List.length_drop, List.length_drop, HNL.out]; omega
                    rw [HJ.out, drop_consL HLL.out, joinL_cons, HEX.out, e])
                  by_cases ha : asideL T = []
                  · have hae : (asideL T).isEmpty = true := by rw [ha]; rfl
                    have HJ3 : Hid (joinL 0 ls = L ++ joinL (j + 1) (ls.drop (j + 1))) := Lib.hid (by rw [HJ2.out, if_pos ha]; rfl)
                    clear ha
                    go_wp2_with fail
                    exact ⟨⟨L, A, n, c, j + 1, rfl, rfl, by omega, by omega, HL, HJ3, HO10, HBB⟩, measJ hij hj⟩
                  · have hae : (asideL T).isEmpty = false := by cases hq : asideL T with
                      | nil => exact absurd hq ha
                      | cons a l => rfl
                    have HJ3 : Hid (joinL 0 ls = (L ++ [(i + 1, asideL T)]) ++ joinL (j + 1) (ls.drop (j + 1))) := Lib.hid (by rw [HJ2.out, if_neg ha, List.append_assoc])
                    have hn24 : (n + 1) * 24 ≤ 140737488355328 := by omega
                    clear ha
                    go_wp2_with (at_builtin; refine wpList_pushLn w10 _ _ w1.heap.size A n c L (i + 1, asideL T) _ rfl HO10.out hzz hn24 rfl rfl rfl rfl ?_; intro g5 c5 w5 hown5 hb5)
                    exact ⟨⟨L ++ [(i + 1, asideL T)], some ⟨g5, 0, none⟩, n + 1, c5, j + 1, rfl, rfl, by omega, by omega, Lib.hid (by simp [HL.out]), HJ3, Lib.hid hown5, Lib.hid (HBB.out.trans hb5)⟩, measJ hij hj⟩
                · obtain ⟨u, d, rfl⟩ := snoc_of h0
                  have HS1 := Lib.hid (strIs (u ++ [d]))
                  have hsz : (⟨(u ++ [d]).toArray⟩ : ByteArray).size = u.length + 1 := by rw [HS1.out.size]; simp
                  have hul : u.length ≤ 20000 := by simp at hT; omega
                  have HD : Hid ((⟨(u ++ [d]).toArray⟩ : ByteArray).toList.isEmpty = false) := Lib.hid (by rw [Lib.toList_data]; simp)
                  have hsl := ext_takeL HS1.out u.length
                  rw [List.take_left' rfl] at hsl
                  have HDB : Hid ((u ++ [d]).isEmpty = false) := Lib.hid (by simp)
                  clear h0
                  by_cases hd : d = 92
                  · subst hd
                    have HE2 : Hid (endsB (u ++ [92]) = true) := Lib.hid (by unfold endsB; simp)
                    have hus : (⟨u.toArray⟩ : ByteArray).size = u.length := rfl
                    clear HDB
                    generalize (⟨(u ++ [92]).toArray⟩ : ByteArray) = bu at *
                    generalize hbs : (⟨u.toArray⟩ : ByteArray) = bs at *
                    have HBS := Lib.hid hbs
                    clear hbs
                    have g1 : ∀ h, bu[u.length]'h = 92 := fun h => last_at HS1.out h
                    have e1 : (bu.size : Int) - 1 = (u.length : Int) := by omega
                    have l1 : (u.length : Int) < (bu.size : Int) := by omega
                    have l2 : u.length < bu.size := by omega
                    have l3 : u.length ≤ bu.size := by omega
                    have he := HD.out
                    have hf1 := HBK.out.free 1
                    have HK8 := Lib.hid (HBK.out.same 1 (.string bs))
                    have HB8 := Lib.hid (HBW.out.setCell (p := ⟨wo.heap.size, 1, none⟩) (Nat.le_refl _) (.string bs))
                    go_upto_region 19 with fail
                    generalize wr.setCell ⟨wo.heap.size, 1, none⟩ (.string bs) = w8 at *
                    clear hc0 hc1 hf1 g1 hsl
                    have hc0 := HK8.out.cell (j := 0) rfl
                    have hc1 := HK8.out.cell (j := 1) rfl
                    have HBK := HK8
                    have HBW := HB8
                    by_cases hend : j + 1 = (X.length + 1)
                    · have HEX : Hid (contL l (ls.drop (i + 1)) = (u, ls.drop (j + 1))) := Lib.hid (by
                        rw [HQ.out.1, List.drop_eq_nil_of_le (by rw [HNL.out]; omega), contL, HE2.out, if_pos rfl, List.dropLast_concat])
                      have hendI : ((j : Int) + 1 == (((X.length : Int) + 1))) = true := by simp; omega
                      have HSC := Lib.hid (rAside_any u (by omega) w8)
                      rw [HBS.out] at HSC
                      go_wp2_with fail
                      refine HSC.out.mono ?_
                      rintro e w9 ⟨rfl, rfl⟩
                      have hf1 := HBK.out.free 1
                      have HK10 := Lib.hid (HBK.out.same 1 (.string ⟨(asideL u).toArray⟩))
                      have HB10 := Lib.hid (HBW.out.setCell (p := ⟨wo.heap.size, 1, none⟩) (Nat.le_refl _) (.string ⟨(asideL u).toArray⟩))
                      go_upto_region 26 with fail
                      generalize w8.setCell ⟨wo.heap.size, 1, none⟩ (.string ⟨(asideL u).toArray⟩) = w10 at *
                      clear hc0 hc1 hf1
                      have HO10 := Lib.hid (own_belowL HO.out HB10.out)
                      have HBB := Lib.hid (below_newL HB.out HB10.out)
                      have hzz := HBB.out.size
                      have hc0 := HK10.out.cell (j := 0) rfl
                      have hc1 := HK10.out.cell (j := 1) rfl
                      have HJ2 : Hid (joinL 0 ls = L ++ ((if asideL u = [] then [] else [(i + 1, asideL u)]) ++ joinL (j + 1) (ls.drop (j + 1)))) := Lib.hid (by
                        have e : i + 1 + ((ls.drop (i + 1)).length - (ls.drop (j + 1)).length) = j + 1 := by rw [List.length_drop, List.length_drop, HNL.out]; omega
                        rw [HJ.out, drop_consL HLL.out, joinL_cons, HEX.out, e])
                      by_cases ha : asideL u = []
                      · have hae : (asideL u).isEmpty = true := by rw [ha]; rfl
                        have HJ3 : Hid (joinL 0 ls = L ++ joinL (j + 1) (ls.drop (j + 1))) := Lib.hid (by rw [HJ2.out, if_pos ha]; rfl)
                        clear ha
                        go_wp2_with fail
                        exact ⟨⟨L, A, n, c, j + 1, rfl, rfl, by omega, by omega, HL, HJ3, HO10, HBB⟩, measJ hij hj⟩
                      · have hae : (asideL u).isEmpty = false := by cases hq : asideL u with
                          | nil => exact absurd hq ha
                          | cons a l => rfl
                        have HJ3 : Hid (joinL 0 ls = (L ++ [(i + 1, asideL u)]) ++ joinL (j + 1) (ls.drop (j + 1))) := Lib.hid (by rw [HJ2.out, if_neg ha, List.append_assoc])
                        have hn24 : (n + 1) * 24 ≤ 140737488355328 := by omega
                        clear ha
                        go_wp2_with (at_builtin; refine wpList_pushLn w10 _ _ w1.heap.size A n c L (i + 1, asideL u) _ rfl HO10.out hzz hn24 rfl rfl rfl rfl ?_; intro g5 c5 w5 hown5 hb5)
                        exact ⟨⟨L ++ [(i + 1, asideL u)], some ⟨g5, 0, none⟩, n + 1, c5, j + 1, rfl, rfl, by omega, by omega, Lib.hid (by simp [HL.out]), HJ3, Lib.hid hown5, Lib.hid (HBB.out.trans hb5)⟩, measJ hij hj⟩
                    · have hlt2 : j + 1 < (X.length + 1) := by omega
                      have hlt2I : (j : Int) + 1 < ((X.length : Int) + 1) := by omega
                      have hendI : ((j : Int) + 1 == (((X.length : Int) + 1))) = false := by simp; omega
                      obtain ⟨l2, hl2⟩ : ∃ l2, ls[j + 1]? = some l2 := ⟨_, List.getElem?_eq_getElem (by rw [HNL.out]; exact hlt2)⟩
                      have HDR := Lib.hid (drop_consL hl2)
                      have HTA := Lib.hid (totL_at hl2)
                      have hll2 : l2.length + u.length ≤ 20001 := by
                        have h1 := HTA.out
                        have h2 := HQ.out.2
                        simp only [List.length_append, List.length_singleton] at h2
                        omega
                      have hf1 := HK8.out.free 1
                      have hca2 := HCELL.out (j + 1) l2 hl2 w8 (below_newL HB.out HBW.out)
                      have HQ3 : Hid (contL l (ls.drop (i + 1)) = contL (u ++ [32] ++ trimLL l2) (ls.drop (j + 1 + 1)) ∧ (u ++ [32] ++ trimLL l2).length + totL (ls.drop (j + 1 + 1)) ≤ 20001) := Lib.hid (by
                        have h1 := HTA.out
                        have h2 := HQ.out.2
                        have h3 := trimLL_le l2
                        rw [HQ.out.1, HDR.out, contL, HE2.out, if_pos rfl, List.dropLast_concat]
                        refine ⟨rfl, ?_⟩
                        simp only [List.length_append, List.length_singleton] at h2 ⊢
                        omega)
                      have hl4 : (u ++ [32] ++ trimLL l2).length ≤ 20001 := by have := HQ3.out.2; omega
                      clear hl2
                      go_wp2_with fail
                      go_loop [9] (fun x => ∃ t : List UInt8, x = .string ⟨t.toArray⟩ ∧ t.length ≤ l2.length ∧ Hid (trimLL l2 = trimLL t)) (fun x => strLenL x)
                      case atStart => exact ⟨l2, rfl, Nat.le_refl _, Lib.hid rfl⟩
                      case round =>
                        obtain ⟨t, rfl, ht, HT⟩ := hrel
                        cases t with
                        | nil =>
                          have HTE : Hid (trimLL l2 = []) := Lib.hid (by rw [HT.out]; rfl)
                          have HCA : Hid (bs ++ ((⟨#[32]⟩ : ByteArray) ++ ⟨#[]⟩) = ⟨(u ++ [32] ++ trimLL l2).toArray⟩) := Lib.hid (by
                            have e1 := cat_bytesL [32] []
                            have e2 := cat_bytesL u ([32] ++ [])
                            rw [HTE.out, ← HBS.out, List.append_assoc]
                            exact (congrArg ((⟨u.toArray⟩ : ByteArray) ++ ·) e1).trans e2)
                          go_upto_region 24 with fail
                          have HK9 := Lib.hid (HBK.out.same 1 (.string (bs ++ (⟨#[32]⟩ ++ ⟨#[]⟩))))
                          have HB9 := Lib.hid (HBW.out.setCell (p := ⟨wo.heap.size, 1, none⟩) (Nat.le_refl _) (.string (bs ++ (⟨#[32]⟩ ++ ⟨#[]⟩))))
                          have HK10 : Hid (Blk (w8.setCell ⟨wo.heap.size, 1, none⟩ (.string (bs ++ (⟨#[32]⟩ ++ ⟨#[]⟩)))) wo.heap.size 34 [.int .i64 ((i : Int) + 1), .string ⟨(u ++ [32] ++ trimLL l2).toArray⟩]) := Lib.hid (by
                            have h := HK9.out
                            generalize w8.setCell ⟨wo.heap.size, 1, none⟩ (.string (bs ++ (⟨#[32]⟩ ++ ⟨#[]⟩))) = wz at h ⊢
                            rw [HCA.out] at h
                            exact h)
                          clear HK9
                          go_wp2_with fail
                          exact ⟨⟨u ++ [32] ++ trimLL l2, j + 1, rfl, by omega, hlt2, hl4, HK10, HB9, HQ3⟩, measJ (Nat.le_refl j) hj⟩
                        | cons c2 t' =>
                          have g0 : ∀ h, (⟨(c2 :: t').toArray⟩ : ByteArray)[0]'h = c2 := fun _ => rfl
                          have hsl2 := ext_tail c2 t'
                          cases hb : blankB c2 with
                          | true =>
                            have HBL := Lib.hid (fun W => rBlank_is c2 W hb)
                            have HT2 : Hid (trimLL l2 = trimLL t') := Lib.hid (by rw [HT.out, trimLL_cons, hb]; rfl)
                            have hl3 : t'.length + 1 ≤ l2.length := by simpa using ht
                            clear hb ht
                            go_wp2_with fail
                            refine (HBL.out _).mono ?_
                            rintro e w2 ⟨rfl, rfl⟩
                            go_wp2_with fail
                            exact ⟨⟨t', rfl, by omega, HT2⟩, Nat.lt_succ_self _⟩
                          | false =>
                            have HBL := Lib.hid (fun W => rBlank_is c2 W hb)
                            have HTE : Hid (trimLL l2 = c2 :: t') := Lib.hid (by rw [HT.out, trimLL_cons, hb]; rfl)
                            have HCA : Hid (bs ++ ((⟨#[32]⟩ : ByteArray) ++ ⟨(c2 :: t').toArray⟩) = ⟨(u ++ [32] ++ trimLL l2).toArray⟩) := Lib.hid (by
                              have e1 := cat_bytesL [32] (c2 :: t')
                              have e2 := cat_bytesL u ([32] ++ (c2 :: t'))
                              rw [HTE.out, ← HBS.out, List.append_assoc]
                              exact (congrArg ((⟨u.toArray⟩ : ByteArray) ++ ·) e1).trans e2)
                            have hbt : (⟨(c2 :: t').toArray⟩ : ByteArray).size ≤ 20001 := by show (c2 :: t').length ≤ 20001; omega
                            clear hb
                            go_wp2_with fail
                            refine (HBL.out _).mono ?_
                            rintro e w2 ⟨rfl, rfl⟩
                            clear g0 hsl2
                            generalize (⟨(c2 :: t').toArray⟩ : ByteArray) = bt at *
                            have HK9 := Lib.hid (HBK.out.same 1 (.string (bs ++ (⟨#[32]⟩ ++ bt))))
                            have HB9 := Lib.hid (HBW.out.setCell (p := ⟨wo.heap.size, 1, none⟩) (Nat.le_refl _) (.string (bs ++ (⟨#[32]⟩ ++ bt))))
                            have HK10 : Hid (Blk (w8.setCell ⟨wo.heap.size, 1, none⟩ (.string (bs ++ (⟨#[32]⟩ ++ bt)))) wo.heap.size 34 [.int .i64 ((i : Int) + 1), .string ⟨(u ++ [32] ++ trimLL l2).toArray⟩]) := Lib.hid (by
                              have h := HK9.out
                              generalize w8.setCell ⟨wo.heap.size, 1, none⟩ (.string (bs ++ (⟨#[32]⟩ ++ bt))) = wz at h ⊢
                              rw [HCA.out] at h
                              exact h)
                            clear HK9
                            go_wp2_with fail
                            exact ⟨⟨u ++ [32] ++ trimLL l2, j + 1, rfl, by omega, hlt2, hl4, HK10, HB9, HQ3⟩, measJ (Nat.le_refl j) hj⟩
                  · have kd : ((d.toNat : Int) == 92) = false := eqK hd
                    have HEX : Hid (contL l (ls.drop (i + 1)) = (u ++ [d], ls.drop (j + 1))) := Lib.hid (by rw [HQ.out.1, contL_end (by unfold endsB; simp [hd])])
                    clear hd
                    have HBKo := HBK
                    have HSC := Lib.hid (rAside_any (u ++ [d]) (by omega) wr)
                    generalize (⟨(u ++ [d]).toArray⟩ : ByteArray) = bu at *
                    have g1 : ∀ h, bu[u.length]'h = d := fun h => last_at HS1.out h
                    have e1 : (bu.size : Int) - 1 = (u.length : Int) := by omega
                    have l1 : (u.length : Int) < (bu.size : Int) := by omega
                    have l2 : u.length < bu.size := by omega
                    have he := HD.out
                    have hq1 := HDB.out
                    go_wp2_with fail
                    refine HSC.out.mono ?_
                    rintro e w9 ⟨rfl, rfl⟩
                    have hf1 := HBK.out.free 1
                    have HK10 := Lib.hid (HBK.out.same 1 (.string ⟨(asideL (u ++ [d])).toArray⟩))
                    have HB10 := Lib.hid (HBW.out.setCell (p := ⟨wo.heap.size, 1, none⟩) (Nat.le_refl _) (.string ⟨(asideL (u ++ [d])).toArray⟩))
                    go_upto_region 26 with fail
                    generalize wr.setCell ⟨wo.heap.size, 1, none⟩ (.string ⟨(asideL (u ++ [d])).toArray⟩) = w10 at *
                    clear hc0 hc1 hf1
                    have HO10 := Lib.hid (own_belowL HO.out HB10.out)
                    have HBB := Lib.hid (below_newL HB.out HB10.out)
                    have hzz := HBB.out.size
                    have hc0 := HK10.out.cell (j := 0) rfl
                    have hc1 := HK10.out.cell (j := 1) rfl
                    have HJ2 : Hid (joinL 0 ls = L ++ ((if asideL (u ++ [d]) = [] then [] else [(i + 1, asideL (u ++ [d]))]) ++ joinL (j + 1) (ls.drop (j + 1)))) := Lib.hid (by
                      have e : i + 1 + ((ls.drop (i + 1)).length - (ls.drop (j + 1)).length) = j + 1 := by rw [List.length_drop, List.length_drop, HNL.out]; omega
                      rw [HJ.out, drop_consL HLL.out, joinL_cons, HEX.out, e])
                    by_cases ha : asideL (u ++ [d]) = []
                    · have hae : (asideL (u ++ [d])).isEmpty = true := by rw [ha]; rfl
                      have HJ3 : Hid (joinL 0 ls = L ++ joinL (j + 1) (ls.drop (j + 1))) := Lib.hid (by rw [HJ2.out, if_pos ha]; rfl)
                      clear ha
                      go_wp2_with fail
                      exact ⟨⟨L, A, n, c, j + 1, rfl, rfl, by omega, by omega, HL, HJ3, HO10, HBB⟩, measJ hij hj⟩
                    · have hae : (asideL (u ++ [d])).isEmpty = false := by cases hq : asideL (u ++ [d]) with
                        | nil => exact absurd hq ha
                        | cons a l => rfl
                      have HJ3 : Hid (joinL 0 ls = (L ++ [(i + 1, asideL (u ++ [d]))]) ++ joinL (j + 1) (ls.drop (j + 1))) := Lib.hid (by rw [HJ2.out, if_neg ha, List.append_assoc])
                      have hn24 : (n + 1) * 24 ≤ 140737488355328 := by omega
                      clear ha
                      go_wp2_with (at_builtin; refine wpList_pushLn w10 _ _ w1.heap.size A n c L (i + 1, asideL (u ++ [d])) _ rfl HO10.out hzz hn24 rfl rfl rfl rfl ?_; intro g5 c5 w5 hown5 hb5)
                      exact ⟨⟨L ++ [(i + 1, asideL (u ++ [d]))], some ⟨g5, 0, none⟩, n + 1, c5, j + 1, rfl, rfl, by omega, by omega, Lib.hid (by simp [HL.out]), HJ3, Lib.hid hown5, Lib.hid (HBB.out.trans hb5)⟩, measJ hij hj⟩
            · have hie : i = (X.length + 1) := by omega
              subst hie
              have HJE : Hid (joinL 0 ls = L) := Lib.hid (by rw [HJ.out, List.drop_eq_nil_of_le (by rw [HNL.out]; exact Nat.le_refl _), joinL_nil, List.append_nil])
              go_wp2_with fail
              go_ret2
              exact ⟨(HB1.out.trans (HB.out.mono HB1.out.size)), .inr ⟨A, n, c, HE.out, by rw [HLS.out, HJE.out, HL.out], by rw [HLS.out, HJE.out]; exact ownL_base HO.out HB1.out.size, rfl⟩⟩
end Go.Proofs.YtjdfmmjadjggjaaDoor
