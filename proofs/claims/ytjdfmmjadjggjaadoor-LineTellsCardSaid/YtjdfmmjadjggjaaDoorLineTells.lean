/- The law LineTells, walked: for every text, sign and row of lines it returns true and only new blocks are made. The texts of the lines take at most 2^63 - 1 bytes. -/
import Derived.Test.YtjdfmmjadjggjaaDoorLn6
import Derived.Test.YtjdfmmjadjggjaaDoorLn15
namespace Go.Proofs.YtjdfmmjadjggjaaDoor
open Go.RowKit

theorem contL_le : ∀ (ls : List (List UInt8)) (t : List UInt8), (contL t ls).2.length ≤ ls.length := fun ls t => contL_len ls t
theorem joinL_len : ∀ (n : Nat) (ls : List (List UInt8)) (k : Nat), ls.length ≤ n → (joinL k ls).length ≤ ls.length := by
  intro n
  induction n with
  | zero =>
    intro ls k h
    obtain rfl : ls = [] := List.length_eq_zero_iff.1 (by omega)
    rw [joinL_nil]; exact Nat.le_refl _
  | succ n ih =>
    intro ls k h
    cases ls with
    | nil => rw [joinL_nil]; exact Nat.le_refl _
    | cons l ls =>
      simp only [List.length_cons] at h
      have h1 := contL_len ls l
      have h2 := ih (contL l ls).2 (k + 1 + (ls.length - (contL l ls).2.length)) (by omega)
      rw [joinL_cons, List.length_append, List.length_cons]
      have h3 : (if asideL (contL l ls).1 = [] then [] else [(k + 1, asideL (contL l ls).1)] : List (Nat × List UInt8)).length ≤ 1 := by split <;> simp
      omega
/-- The lines of a text; none, if it has a fault. -/
def joM (s : List UInt8) : List (Nat × List UInt8) := if lnE s = 0 then joinL 0 (linesN s) else []
theorem joM_len (s : List UInt8) : (joM s).length ≤ 20001 := by
  unfold joM
  split
  · rename_i h
    have h1 := joinL_len _ (linesN s) 0 (Nat.le_refl _)
    have h2 := totL_len (linesN s)
    have h3 := totL_lines _ s (Nat.le_refl _)
    unfold lnE at h
    split at h
    · cases h
    · omega
  · simp
theorem JoPost.uni {s : List UInt8} {w : World} {e : Ending} {w' : World} (h : JoPost s w e w') : Below w.heap.size w w' ∧ ∃ A n c, (joM s).length = n ∧ Rd w' A (lnV (joM s)) ∧ e = .returned (.tuple #[.slice A n c, .int .i64 (lnE s : Int)]) := by
  refine ⟨h.1, ?_⟩
  rcases h.2 with ⟨h0, rfl⟩ | ⟨A, n, c, h0, hn, ho, rfl⟩
  · have hM : joM s = [] := if_neg h0
    exact ⟨none, 0, 0, by rw [hM]; rfl, by rw [hM]; exact Rd.nil_ _ _, rfl⟩
  · have hM : joM s = joinL 0 (linesN s) := if_pos h0
    exact ⟨A, n, c, by rw [hM]; exact hn, by rw [hM]; exact Rd.own2 ho, by rw [h0]; rfl⟩
set_option maxRecDepth 100000 in
set_option maxHeartbeats 1000000 in
theorem lnSelf_any {A1 A2 : Option Addr} {n c1 c2 : Nat} (l : List (List UInt8)) (w : World) (h1 : Rd w A1 (l.map svL)) (h2 : Rd w A2 (l.map svL)) (hn : l.length = n) (hb : n ≤ 9223372036854775807) :
    Calls Tryd.prog 9 #[.slice A1 n c1, .slice A2 n c2] w fun e w' => e = .returned (.bool true) ∧ Below w.heap.size w w' := by
  have H1 := Lib.hid h1
  have H2 := Lib.hid h2
  have HN := Lib.hid hn
  have hz : ((n : Int) != (n : Int)) = false := by simp
  clear h1 h2 hn
  go_enter Tryd.func9, Tryd.ntmps9
  go_wp2_with fail
  go_loopw [5, 13] (fun _ i wr => ∃ k q : Nat, k ≤ n ∧ i = .int .i64 (k : Int) ∧ wr = w.drewN q) (fun _ i _ => n - (intOf i).toNat)
  case atStart => exact ⟨0, 0, by omega, rfl, rfl⟩
  case round =>
    obtain ⟨k, q, hk, rfl, rfl⟩ := hrel
    by_cases hlt : k < n
    · obtain ⟨x, hx⟩ : ∃ x, l[k]? = some x := ⟨_, List.getElem?_eq_getElem (by rw [HN.out]; exact hlt)⟩
      obtain ⟨b1, o1, rfl, e1⟩ := H1.out.line hx
      obtain ⟨b2, o2, rfl, e2⟩ := H2.out.line hx
      generalize (⟨x.toArray⟩ : ByteArray) = bx at e1 e2
      have k0 : (0 : Int) ≤ (k : Int) := by omega
      have k1 : (k : Int) < (n : Int) := by omega
      clear hx
      go_wp2_with fail
      go_quiet (fail)
      go_wp2_with fail
      go_roundw
      case rel => exact ⟨k + 1, _, by omega, by go_num, rfl⟩
      case measure => simp [intOf]; omega
    · obtain rfl : k = n := by omega
      go_wp2_with fail
      go_ret
      exact ⟨rfl, below_of_drewN _ _⟩
set_option maxRecDepth 100000 in
set_option maxHeartbeats 8000000 in
theorem lineTells_walk (s : List UInt8) (A : Option Addr) (c : Nat) (L : List (Int × List UInt8)) (d : UInt8) (m : Int) (w : World) (hs : s.length ≤ 9223372036854775807) (hA : Rd w A (lnZ L)) (hL : L.length ≤ 9223372036854775807) (hT : ∀ x ∈ L, x.2.length ≤ 9223372036854775807) (hK : ∀ x ∈ L, x.1 ≤ 9223372036854775807) (hm : w.cell? ⟨0, 0, none⟩ = some (.int .i64 m)) :
    Calls Tryd.prog 3 #[.string ⟨s.toArray⟩, .slice A L.length c, .int .u8 (d.toNat : Int)] w fun e w' => e = .returned (.bool true) ∧ Below w.heap.size w w' := by
  have HA := Lib.hid hA
  have HTX := Lib.hid hT
  have HKX := Lib.hid hK
  have HM := Lib.hid hm
  have HL := Lib.hid hL
  obtain ⟨tb, htb⟩ : ∃ tb : ByteArray, (⟨(if ltE L = 0 then printF 0 L else []).toArray⟩ : ByteArray) = tb := ⟨_, rfl⟩
  have HPR := Lib.hid (fun (W : World) (hb : Below w.heap.size w W) (ht : ∀ y ∈ L, y.2.length ≤ 500) => (lnPrint_any L A c m W (hA.below hb) hL (fun y hy => Nat.le_trans (ht y hy) (by decide)) hK (pc_keepL hm hb)).mono (fun e w' h => (⟨by rw [h.2, htb], h.1⟩ : e = .returned (.tuple #[.string tb, .int .i64 (ltE L : Int)]) ∧ Below W.heap.size W w')))
  have HPT := Lib.hid (fun (W : World) (hb : Below w.heap.size w W) (ht : ∀ y ∈ L, y.2.length ≤ 500) => (rText_any L A c W (hA.below hb) hL (fun y hy => Nat.le_trans (ht y hy) (by decide))).mono (fun e w' h => (⟨by rw [h.2, htb], h.1⟩ : e = .returned (.tuple #[.string tb, .int .i64 (ltE L : Int)]) ∧ Below W.heap.size W w')))
  clear hA hT hK hm htb
  generalize ltE L = le at *
  generalize hn : L.length = n at *
  have HN := Lib.hid hn
  clear hn
  have hsz : (⟨s.toArray⟩ : ByteArray).size = s.length := rfl
  by_cases h1 : 500 < s.length ∧ s.length ≤ 20000
  · obtain ⟨h1, h2⟩ := h1
    generalize (⟨s.toArray⟩ : ByteArray) = b at *
    have g1 : 500 < (b.size : Int) := by omega
    have g2 : (b.size : Int) ≤ 20000 := by omega
    have g3 : decide (500 < (b.size : Int)) = true := by simp [g1]
    have g4 : decide ((b.size : Int) ≤ 20000) = true := by simp [g2]
    clear h1 h2 hsz hs
    go_enter Tryd.func3, Tryd.ntmps3
    go_wp2_with fail
    go_ret
    exact ⟨rfl, Below.refl _ _⟩
  · have HJ := Lib.hid (lnJoinC_any s m w hs HM.out)
    have HR := Lib.hid (fun W => rLinesOf_any s W hs)
    by_cases h2 : s.length ≤ 500
    · have HSP := Lib.hid (fun W => lnSplit_any s d (by omega) W)
      have HS := Lib.hid (strIs s)
      have HPL := Lib.hid (fun k W => rTrimmed_any (s.take k) (by rw [List.length_take]; omega) W)
      have HPR2 := Lib.hid (fun k W => rTrimmed_any (s.drop k) (by rw [List.length_drop]; omega) W)
      have HWL : Hid ((wordsL s).length ≤ 9223372036854775807) := Lib.hid (by
        have h := (wFold_len s s.length)
        rw [List.take_of_length_le (Nat.le_refl _)] at h
        unfold wordsL wEnd
        split
        · omega
        · rw [List.length_append]; simp only [List.length_singleton]; omega)
      have HW1 := Lib.hid (fun W => lnWords_any s (by omega) W)
      have HW2 := Lib.hid (fun W => rWordsOf_any s (by omega) W)
      generalize hbs : (⟨s.toArray⟩ : ByteArray) = b at *
      have HBE := Lib.hid hbs
      clear hbs
      have g1 : (b.size : Int) ≤ 500 := by omega
      have g3 : decide (500 < (b.size : Int)) = false := by simp; omega
      have HSZ := Lib.hid hsz
      have hb5 : b.size ≤ 500 := by omega
      clear hsz hs h1 h2
      go_enter Tryd.func3, Tryd.ntmps3
      go_wp2_with fail
      refine HJ.out.mono ?_
      rintro e w1 hj1
      obtain ⟨hb1, A1, n1, c1, hn1, hr1, rfl⟩ := hj1.uni
      have HB1 := Lib.hid hb1
      have HR1 := Lib.hid hr1
      have HN1 := Lib.hid hn1
      clear hb1 hr1 hn1 hj1
      go_wp2_with fail
      refine (HR.out _).mono ?_
      rintro e w2 hj2
      obtain ⟨hb2, A2, n2, c2, hn2, hr2, rfl⟩ := hj2.uni
      have HB2 := Lib.hid (below_newL HB1.out hb2)
      have HS12 := Lib.hid (rSame_any (joM s) A1 A2 c1 c2 w2 (HR1.out.below hb2) hr2 (Nat.le_trans (joM_len s) (by decide)))
      rw [HN1.out] at HS12
      rw [HN1.out] at hn2
      subst hn2
      clear hb2 hr2 hj2
      go_wp2_with fail
      refine HS12.out.mono ?_
      rintro e w3 ⟨rfl, hb3⟩
      have HB3 := Lib.hid (below_newL HB2.out hb3)
      clear hb3 HR1 HS12 HN1
      go_wp2_with fail
      refine (HSP.out _).mono ?_
      rintro e w4 ⟨hb4, hcs⟩
      have HB4 := Lib.hid (below_newL HB3.out hb4)
      clear hb4
      rcases hcs with ⟨hno, rfl⟩ | ⟨k, hk1, hk2, rfl⟩
      · have HNO := Lib.hid hno
        clear hno
        rw [HBE.out]
        go_wp2_with fail
        go_loop [14, 61] (fun x y => ∃ i : Nat, x = .int .i64 (-1) ∧ y = .int .i64 (i : Int) ∧ i ≤ b.size) (fun _ y => b.size - (intOf y).toNat)
        case atStart => exact ⟨0, rfl, rfl, by omega⟩
        case round =>
          obtain ⟨i, rfl, rfl, hi⟩ := hrel
          by_cases hlt : i < b.size
          · obtain ⟨x, hx⟩ : ∃ x, x = b[i] := ⟨_, rfl⟩
            have g0 : ∀ h, b[i]'h = x := fun _ => hx.symm
            have hxd : x ≠ d := fun e => HNO.out (by
              have h := HS.out.at_ hlt
              rw [← hx, e] at h
              exact List.mem_of_getElem? h)
            have kx : ((x.toNat : Int) == (d.toNat : Int)) = false := eqK hxd
            have i0 : (i : Int) < (b.size : Int) := by omega
            clear hx hxd
            go_wp2_with fail
            exact ⟨⟨i + 1, rfl, rfl, by omega⟩, measL hlt⟩
          · have hie : i = b.size := by omega
            subst hie
            go_wp2_with fail
            refine (HW1.out _).mono ?_
            rintro e w7 ⟨A7, rfl, ho7, hb7⟩
            have HB7 := Lib.hid (below_newL HB4.out hb7)
            have HR7 := Lib.hid (Rd.of_own ho7)
            clear ho7 hb7
            go_wp2_with fail
            refine (HW2.out _).mono ?_
            rintro e w8 ⟨A8, c8, rfl, ho8, hb8⟩
            have HB8 := Lib.hid (below_newL HB7.out hb8)
            have HR8 := Lib.hid (Rd.of_own ho8)
            have HR78 := Lib.hid (HR7.out.below hb8)
            clear ho8 hb8
            go_wp2_with fail
            refine (lnSelf_any (wordsL s) _ HR78.out HR8.out rfl HWL.out).mono ?_
            rintro e w9 ⟨rfl, hb9⟩
            have HB9 := Lib.hid (below_newL HB8.out hb9)
            clear hb9
            go_wp2_with fail
            go_loopw [124] (fun x wr => ∃ i : Nat, x = .int .i64 (i : Int) ∧ i ≤ n ∧ Hid (∀ y ∈ L.take i, y.2.length ≤ 500) ∧ Hid (Below w.heap.size w wr)) (fun x _ => n - (intOf x).toNat)
            case atStart => exact ⟨0, rfl, by omega, Lib.hid (by simp), Lib.hid (HB9.out)⟩
            case round =>
              obtain ⟨i, rfl, hi, HQ, HB⟩ := hrel
              by_cases hlt : i < n
              · obtain ⟨x, hx⟩ : ∃ x, L[i]? = some x := ⟨_, List.getElem?_eq_getElem (by rw [HN.out]; exact hlt)⟩
                obtain ⟨b1, o1, rfl, a1, a2⟩ := (HA.out.below HB.out).two hx
                have hltI : (i : Int) < (n : Int) := by omega
                have hcap : 2 * i = i * 2 := by omega
                rw [hcap] at a1 a2
                clear hcap
                obtain ⟨k, tx⟩ := x
                have HX := Lib.hid hx
                simp only [] at a1 a2
                clear hx
                have hszt : (⟨tx.toArray⟩ : ByteArray).size = tx.length := rfl
                have HBK0 := Lib.hid (show Blk (wr.alloc (.cells #[.int .i64 k, .string ⟨tx.toArray⟩] 34)) wr.heap.size 34 [.int .i64 k, .string ⟨tx.toArray⟩] from Blk.new wr _ _)
                have HB0 := Lib.hid (below_newL HB.out (Below.alloc (Below.refl _ _) (Nat.le_refl _) (.cells #[.int .i64 k, .string ⟨tx.toArray⟩] 34)))
                have HNX : Hid (tx.length ≤ 500 → ∀ y ∈ L.take (i + 1), y.2.length ≤ 500) := Lib.hid (fun h y hy => by
                  rw [take_snocL HX.out] at hy
                  rcases List.mem_append.1 hy with hy | hy
                  · exact HQ.out y hy
                  · rw [List.mem_singleton.1 hy]; exact h)
                generalize (⟨tx.toArray⟩ : ByteArray) = bs at *
                go_upto_region 21 with fail
                generalize wr.alloc (.cells #[.int .i64 k, .string bs] 34) = w9 at *
                have hc0 := HBK0.out.cell (j := 0) rfl
                have hc1 := HBK0.out.cell (j := 1) rfl
                have hcs : ((decide (1000 < k) = true ∧ decide (k ≤ 20000) = true) ∨ (decide (1000 < k) = true ∧ decide (k ≤ 20000) = false ∧ decide (500 < (bs.size : Int)) = true) ∨ (decide (1000 < k) = false ∧ decide (500 < (bs.size : Int)) = true)) ∨ ((decide (1000 < k) = true ∧ decide (k ≤ 20000) = false ∧ decide (500 < (bs.size : Int)) = false) ∨ (decide (1000 < k) = false ∧ decide (500 < (bs.size : Int)) = false)) := by
                  cases decide (1000 < k) <;> cases decide (k ≤ 20000) <;> cases decide (500 < (bs.size : Int)) <;> simp
                rcases hcs with hcs | hcs
                · rcases hcs with ⟨d1, d2⟩ | ⟨d1, d2, d3⟩ | ⟨d1, d3⟩
                  all_goals
                    clear HNX HX hszt
                    go_wp2_with fail
                    go_ret
                    exact ⟨rfl, by first | exact HB0.out | exact below_drewN HB0.out _⟩
                · have hlen : tx.length ≤ 500 := by
                    rcases hcs with ⟨_, _, h⟩ | ⟨_, h⟩ <;> (have h := of_decide_eq_false h; omega)
                  have HQ2 := Lib.hid (HNX.out hlen)
                  clear hlen
                  rcases hcs with ⟨d1, d2, d3⟩ | ⟨d1, d3⟩
                  all_goals
                    clear HNX HX hszt
                    go_wp2_with fail
                    exact ⟨⟨i + 1, rfl, by omega, HQ2, Lib.hid (by first | exact HB0.out | exact below_drewN HB0.out _)⟩, measL hlt⟩
              · obtain rfl : i = n := by omega
                have hT5 := HQ.out
                rw [List.take_of_length_le (by rw [HN.out]; exact Nat.le_refl _)] at hT5
                have HT5 := Lib.hid hT5
                clear hT5
                go_wp2_with fail
                refine (HPR.out _ HB.out HT5.out).mono ?_
                rintro e v1 ⟨rfl, hv1⟩
                have HV1 := Lib.hid (below_newL HB.out hv1)
                clear hv1
                go_wp2_with fail
                refine (HPT.out _ HV1.out HT5.out).mono ?_
                rintro e v2 ⟨rfl, hv2⟩
                have HV2 := Lib.hid (below_newL HV1.out hv2)
                clear hv2
                go_wp2_with fail
                go_ret
                exact ⟨rfl, HV2.out⟩
      · have HK1 := Lib.hid hk1
        have HK2 := Lib.hid hk2
        have hkb : k < b.size := by rw [HSZ.out]; exact (List.getElem?_eq_some_iff.1 hk1).1
        clear hk1 hk2
        go_wp2_with fail
        go_loop [14, 61] (fun x y => ∃ i : Nat, ((i ≤ k ∧ x = .int .i64 (-1)) ∨ (k < i ∧ x = .int .i64 (k : Int))) ∧ y = .int .i64 (i : Int) ∧ i ≤ b.size) (fun _ y => b.size - (intOf y).toNat)
        case atStart => exact ⟨0, .inl ⟨Nat.zero_le _, rfl⟩, rfl, by omega⟩
        case round =>
          obtain ⟨i, hor, rfl, hi⟩ := hrel
          by_cases hlt : i < b.size
          · obtain ⟨x, hx⟩ : ∃ x, x = b[i] := ⟨_, rfl⟩
            have g0 : ∀ h, b[i]'h = x := fun _ => hx.symm
            have HX : Hid (s[i]? = some x) := Lib.hid (by rw [hx]; exact HS.out.at_ hlt)
            have i0 : (i : Int) < (b.size : Int) := by omega
            clear hx
            rcases hor with ⟨hik, rfl⟩ | ⟨hik, rfl⟩
            · by_cases hie : i = k
              · subst hie
                have hxd : x = d := by have h := HX.out; rw [HK1.out] at h; injection h with h; exact h.symm
                subst hxd
                go_wp2_with fail
                exact ⟨⟨i + 1, .inr ⟨by omega, rfl⟩, rfl, by omega⟩, measL hlt⟩
              · have hxd : x ≠ d := fun e => HK2.out (by
                  rw [← e]
                  refine List.mem_of_getElem? (i := i) ?_
                  rw [List.getElem?_take, if_pos (by omega)]
                  exact HX.out)
                have kx : ((x.toNat : Int) == (d.toNat : Int)) = false := eqK hxd
                clear hxd
                go_wp2_with fail
                exact ⟨⟨i + 1, .inl ⟨by omega, rfl⟩, rfl, by omega⟩, measL hlt⟩
            · have hk0 : ¬ ((k : Int) < 0) := by omega
              by_cases hxd : x = d
              · subst hxd
                go_wp2_with fail
                exact ⟨⟨i + 1, .inr ⟨by omega, rfl⟩, rfl, by omega⟩, measL hlt⟩
              · have kx : ((x.toNat : Int) == (d.toNat : Int)) = false := eqK hxd
                clear hxd
                go_wp2_with fail
                exact ⟨⟨i + 1, .inr ⟨by omega, rfl⟩, rfl, by omega⟩, measL hlt⟩
          · have hie : i = b.size := by omega
            subst hie
            obtain rfl := (hor.resolve_left (fun h => by omega)).2
            have hk0 : ¬ ((k : Int) < 0) := by omega
            go_wp2_with fail
            rw [ext_takeL HS.out k]
            refine (HPL.out k _).mono ?_
            rintro e w5 ⟨rfl, rfl⟩
            go_wp2_with fail
            rw [ext_dropL HS.out (k + 1)]
            refine (HPR2.out (k + 1) _).mono ?_
            rintro e w6 ⟨rfl, rfl⟩
            go_wp2_with fail
            refine (HW1.out _).mono ?_
            rintro e w7 ⟨A7, rfl, ho7, hb7⟩
            have HB7 := Lib.hid (below_newL HB4.out hb7)
            have HR7 := Lib.hid (Rd.of_own ho7)
            clear ho7 hb7
            go_wp2_with fail
            refine (HW2.out _).mono ?_
            rintro e w8 ⟨A8, c8, rfl, ho8, hb8⟩
            have HB8 := Lib.hid (below_newL HB7.out hb8)
            have HR8 := Lib.hid (Rd.of_own ho8)
            have HR78 := Lib.hid (HR7.out.below hb8)
            clear ho8 hb8
            go_wp2_with fail
            refine (lnSelf_any (wordsL s) _ HR78.out HR8.out rfl HWL.out).mono ?_
            rintro e w9 ⟨rfl, hb9⟩
            have HB9 := Lib.hid (below_newL HB8.out hb9)
            clear hb9
            go_wp2_with fail
            go_loopw [124] (fun x wr => ∃ i : Nat, x = .int .i64 (i : Int) ∧ i ≤ n ∧ Hid (∀ y ∈ L.take i, y.2.length ≤ 500) ∧ Hid (Below w.heap.size w wr)) (fun x _ => n - (intOf x).toNat)
            case atStart => exact ⟨0, rfl, by omega, Lib.hid (by simp), Lib.hid (HB9.out)⟩
            case round =>
              obtain ⟨i, rfl, hi, HQ, HB⟩ := hrel
              by_cases hlt : i < n
              · obtain ⟨x, hx⟩ : ∃ x, L[i]? = some x := ⟨_, List.getElem?_eq_getElem (by rw [HN.out]; exact hlt)⟩
                obtain ⟨b1, o1, rfl, a1, a2⟩ := (HA.out.below HB.out).two hx
                have hltI : (i : Int) < (n : Int) := by omega
                have hcap : 2 * i = i * 2 := by omega
                rw [hcap] at a1 a2
                clear hcap
                obtain ⟨k, tx⟩ := x
                have HX := Lib.hid hx
                simp only [] at a1 a2
                clear hx
                have hszt : (⟨tx.toArray⟩ : ByteArray).size = tx.length := rfl
                have HBK0 := Lib.hid (show Blk (wr.alloc (.cells #[.int .i64 k, .string ⟨tx.toArray⟩] 34)) wr.heap.size 34 [.int .i64 k, .string ⟨tx.toArray⟩] from Blk.new wr _ _)
                have HB0 := Lib.hid (below_newL HB.out (Below.alloc (Below.refl _ _) (Nat.le_refl _) (.cells #[.int .i64 k, .string ⟨tx.toArray⟩] 34)))
                have HNX : Hid (tx.length ≤ 500 → ∀ y ∈ L.take (i + 1), y.2.length ≤ 500) := Lib.hid (fun h y hy => by
                  rw [take_snocL HX.out] at hy
                  rcases List.mem_append.1 hy with hy | hy
                  · exact HQ.out y hy
                  · rw [List.mem_singleton.1 hy]; exact h)
                generalize (⟨tx.toArray⟩ : ByteArray) = bs at *
                go_upto_region 21 with fail
                generalize wr.alloc (.cells #[.int .i64 k, .string bs] 34) = w9 at *
                have hc0 := HBK0.out.cell (j := 0) rfl
                have hc1 := HBK0.out.cell (j := 1) rfl
                have hcs : ((decide (1000 < k) = true ∧ decide (k ≤ 20000) = true) ∨ (decide (1000 < k) = true ∧ decide (k ≤ 20000) = false ∧ decide (500 < (bs.size : Int)) = true) ∨ (decide (1000 < k) = false ∧ decide (500 < (bs.size : Int)) = true)) ∨ ((decide (1000 < k) = true ∧ decide (k ≤ 20000) = false ∧ decide (500 < (bs.size : Int)) = false) ∨ (decide (1000 < k) = false ∧ decide (500 < (bs.size : Int)) = false)) := by
                  cases decide (1000 < k) <;> cases decide (k ≤ 20000) <;> cases decide (500 < (bs.size : Int)) <;> simp
                rcases hcs with hcs | hcs
                · rcases hcs with ⟨d1, d2⟩ | ⟨d1, d2, d3⟩ | ⟨d1, d3⟩
                  all_goals
                    clear HNX HX hszt
                    go_wp2_with fail
                    go_ret
                    exact ⟨rfl, by first | exact HB0.out | exact below_drewN HB0.out _⟩
                · have hlen : tx.length ≤ 500 := by
                    rcases hcs with ⟨_, _, h⟩ | ⟨_, h⟩ <;> (have h := of_decide_eq_false h; omega)
                  have HQ2 := Lib.hid (HNX.out hlen)
                  clear hlen
                  rcases hcs with ⟨d1, d2, d3⟩ | ⟨d1, d3⟩
                  all_goals
                    clear HNX HX hszt
                    go_wp2_with fail
                    exact ⟨⟨i + 1, rfl, by omega, HQ2, Lib.hid (by first | exact HB0.out | exact below_drewN HB0.out _)⟩, measL hlt⟩
              · obtain rfl : i = n := by omega
                have hT5 := HQ.out
                rw [List.take_of_length_le (by rw [HN.out]; exact Nat.le_refl _)] at hT5
                have HT5 := Lib.hid hT5
                clear hT5
                go_wp2_with fail
                refine (HPR.out _ HB.out HT5.out).mono ?_
                rintro e v1 ⟨rfl, hv1⟩
                have HV1 := Lib.hid (below_newL HB.out hv1)
                clear hv1
                go_wp2_with fail
                refine (HPT.out _ HV1.out HT5.out).mono ?_
                rintro e v2 ⟨rfl, hv2⟩
                have HV2 := Lib.hid (below_newL HV1.out hv2)
                clear hv2
                go_wp2_with fail
                go_ret
                exact ⟨rfl, HV2.out⟩
    · generalize (⟨s.toArray⟩ : ByteArray) = b at *
      have g1 : 500 < (b.size : Int) := by omega
      have g2 : 20000 < (b.size : Int) := by omega
      have g3 : decide (500 < (b.size : Int)) = true := by simp [g1]
      have g4 : decide ((b.size : Int) ≤ 20000) = false := by simp; omega
      clear hsz hs h1 h2
      go_enter Tryd.func3, Tryd.ntmps3
      go_wp2_with fail
      refine HJ.out.mono ?_
      rintro e w1 hj1
      obtain ⟨hb1, A1, n1, c1, hn1, hr1, rfl⟩ := hj1.uni
      have HB1 := Lib.hid hb1
      have HR1 := Lib.hid hr1
      have HN1 := Lib.hid hn1
      clear hb1 hr1 hn1 hj1
      go_wp2_with fail
      refine (HR.out _).mono ?_
      rintro e w2 hj2
      obtain ⟨hb2, A2, n2, c2, hn2, hr2, rfl⟩ := hj2.uni
      have HB2 := Lib.hid (below_newL HB1.out hb2)
      have HS12 := Lib.hid (rSame_any (joM s) A1 A2 c1 c2 w2 (HR1.out.below hb2) hr2 (Nat.le_trans (joM_len s) (by decide)))
      rw [HN1.out] at HS12
      rw [HN1.out] at hn2
      subst hn2
      clear hb2 hr2 hj2
      go_wp2_with fail
      refine HS12.out.mono ?_
      rintro e w3 ⟨rfl, hb3⟩
      have HB3 := Lib.hid (below_newL HB2.out hb3)
      clear hb3 HR1 HS12 HN1
      go_wp2_with fail
      go_loopw [124] (fun x wr => ∃ i : Nat, x = .int .i64 (i : Int) ∧ i ≤ n ∧ Hid (∀ y ∈ L.take i, y.2.length ≤ 500) ∧ Hid (Below w.heap.size w wr)) (fun x _ => n - (intOf x).toNat)
      case atStart => exact ⟨0, rfl, by omega, Lib.hid (by simp), Lib.hid (HB3.out)⟩
      case round =>
        obtain ⟨i, rfl, hi, HQ, HB⟩ := hrel
        by_cases hlt : i < n
        · obtain ⟨x, hx⟩ : ∃ x, L[i]? = some x := ⟨_, List.getElem?_eq_getElem (by rw [HN.out]; exact hlt)⟩
          obtain ⟨b1, o1, rfl, a1, a2⟩ := (HA.out.below HB.out).two hx
          have hltI : (i : Int) < (n : Int) := by omega
          have hcap : 2 * i = i * 2 := by omega
          rw [hcap] at a1 a2
          clear hcap
          obtain ⟨k, tx⟩ := x
          have HX := Lib.hid hx
          simp only [] at a1 a2
          clear hx
          have hszt : (⟨tx.toArray⟩ : ByteArray).size = tx.length := rfl
          have HBK0 := Lib.hid (show Blk (wr.alloc (.cells #[.int .i64 k, .string ⟨tx.toArray⟩] 34)) wr.heap.size 34 [.int .i64 k, .string ⟨tx.toArray⟩] from Blk.new wr _ _)
          have HB0 := Lib.hid (below_newL HB.out (Below.alloc (Below.refl _ _) (Nat.le_refl _) (.cells #[.int .i64 k, .string ⟨tx.toArray⟩] 34)))
          have HNX : Hid (tx.length ≤ 500 → ∀ y ∈ L.take (i + 1), y.2.length ≤ 500) := Lib.hid (fun h y hy => by
            rw [take_snocL HX.out] at hy
            rcases List.mem_append.1 hy with hy | hy
            · exact HQ.out y hy
            · rw [List.mem_singleton.1 hy]; exact h)
          generalize (⟨tx.toArray⟩ : ByteArray) = bs at *
          go_upto_region 21 with fail
          generalize wr.alloc (.cells #[.int .i64 k, .string bs] 34) = w9 at *
          have hc0 := HBK0.out.cell (j := 0) rfl
          have hc1 := HBK0.out.cell (j := 1) rfl
          have hcs : ((decide (1000 < k) = true ∧ decide (k ≤ 20000) = true) ∨ (decide (1000 < k) = true ∧ decide (k ≤ 20000) = false ∧ decide (500 < (bs.size : Int)) = true) ∨ (decide (1000 < k) = false ∧ decide (500 < (bs.size : Int)) = true)) ∨ ((decide (1000 < k) = true ∧ decide (k ≤ 20000) = false ∧ decide (500 < (bs.size : Int)) = false) ∨ (decide (1000 < k) = false ∧ decide (500 < (bs.size : Int)) = false)) := by
            cases decide (1000 < k) <;> cases decide (k ≤ 20000) <;> cases decide (500 < (bs.size : Int)) <;> simp
          rcases hcs with hcs | hcs
          · rcases hcs with ⟨d1, d2⟩ | ⟨d1, d2, d3⟩ | ⟨d1, d3⟩
            all_goals
              clear HNX HX hszt
              go_wp2_with fail
              go_ret
              exact ⟨rfl, by first | exact HB0.out | exact below_drewN HB0.out _⟩
          · have hlen : tx.length ≤ 500 := by
              rcases hcs with ⟨_, _, h⟩ | ⟨_, h⟩ <;> (have h := of_decide_eq_false h; omega)
            have HQ2 := Lib.hid (HNX.out hlen)
            clear hlen
            rcases hcs with ⟨d1, d2, d3⟩ | ⟨d1, d3⟩
            all_goals
              clear HNX HX hszt
              go_wp2_with fail
              exact ⟨⟨i + 1, rfl, by omega, HQ2, Lib.hid (by first | exact HB0.out | exact below_drewN HB0.out _)⟩, measL hlt⟩
        · obtain rfl : i = n := by omega
          have hT5 := HQ.out
          rw [List.take_of_length_le (by rw [HN.out]; exact Nat.le_refl _)] at hT5
          have HT5 := Lib.hid hT5
          clear hT5
          go_wp2_with fail
          refine (HPR.out _ HB.out HT5.out).mono ?_
          rintro e v1 ⟨rfl, hv1⟩
          have HV1 := Lib.hid (below_newL HB.out hv1)
          clear hv1
          go_wp2_with fail
          refine (HPT.out _ HV1.out HT5.out).mono ?_
          rintro e v2 ⟨rfl, hv2⟩
          have HV2 := Lib.hid (below_newL HV1.out hv2)
          clear hv2
          go_wp2_with fail
          go_ret
          exact ⟨rfl, HV2.out⟩
end Go.Proofs.YtjdfmmjadjggjaaDoor
