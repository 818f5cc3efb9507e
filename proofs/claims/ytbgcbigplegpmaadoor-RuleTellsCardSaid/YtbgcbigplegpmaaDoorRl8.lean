/- Contracts: the reference's needsOf and RulesJoined. A slice of rules as it lies; lists and texts below 2^63. -/
import Derived.Test.YtbgcbigplegpmaaDoorRl7
namespace Go.Proofs.YtbgcbigplegpmaaDoor
open Go.RowKit

theorem own_cap {w : World} {B n c : Nat} {A : Option Addr} {l : List Value} {e : TypeId} (h : w.ownsRow B e 1 (.slice A n c) n l) : n ≤ c := by
  rcases Nat.eq_zero_or_pos n with h0 | h0
  · omega
  · exact (own_more h h0).choose_spec.2
theorem needsR_snoc (l : List RuleT) (r : RuleT) (t : KeyT) : needsR (l ++ [r]) t = if t ∈ r.1 then addAll (needsR l t) r.2 else needsR l t := by unfold needsR; rw [List.foldl_append]; rfl
theorem needsR_len {l : List RuleT} (h : ∀ r ∈ l, r.2.length ≤ 20) (t : KeyT) : ∀ i, (needsR (l.take i) t).length ≤ 20 * i
  | 0 => by simp [needsR]
  | i + 1 => by
    have ih := needsR_len h t i
    by_cases hi : i < l.length
    · have hr := h _ (List.getElem_mem hi)
      rw [take_snocS (List.getElem?_eq_getElem hi), needsR_snoc]
      split
      · have := addAll_len l[i].2 (needsR (l.take i) t); omega
      · omega
    · rw [List.take_of_length_le (by omega)] at ih ⊢
      omega
theorem needsR_each {P : KeyT → Prop} {l : List RuleT} (h : ∀ r ∈ l, ∀ x ∈ r.2, P x) (t : KeyT) : ∀ x ∈ needsR l t, P x := by
  unfold needsR
  have key : ∀ (l : List RuleT) (o : List KeyT), (∀ x ∈ o, P x) → (∀ r ∈ l, ∀ x ∈ r.2, P x) → ∀ x ∈ l.foldl (fun o r => if t ∈ r.1 then addAll o r.2 else o) o, P x := by
    intro l
    induction l with
    | nil => intro o ho _; exact ho
    | cons r l ih =>
      intro o ho hl
      rw [List.foldl_cons]
      refine ih _ ?_ (fun q hq => hl q (List.mem_cons_of_mem _ hq))
      split
      · exact addAll_each r.2 o ho (hl r (List.mem_cons_self ..))
      · exact ho
  exact key l [] (fun x hx => by cases hx) h
theorem rulesOf_at {L : List RSlot} {i : Nat} {x : RSlot} (h : L[i]? = some x) : (rulesOf L)[i]? = some x.2.2 := by unfold rulesOf; rw [List.getElem?_map, h]; rfl
theorem rulesOf_take (L : List RSlot) (i : Nat) : rulesOf (L.take i) = (rulesOf L).take i := by unfold rulesOf; rw [List.map_take]
def NdPost (l : List RuleT) (t : KeyT) (w : World) (e : Ending) (w' : World) : Prop :=
  ∃ A c, e = .returned (.slice A (needsR l t).length c) ∧ w'.ownsRow w.heap.size 9 1 (.slice A (needsR l t).length c) (needsR l t).length ((needsR l t).map sv) ∧ Below w.heap.size w w'
set_option maxRecDepth 100000 in
set_option maxHeartbeats 4000000 in
theorem needsOf_any {A : Option Addr} {n c : Nat} (L : List RSlot) (t : KeyT) (w : World) (hA : RsAll A L w) (hn : L.length = n) (hb : n ≤ 100) (h20 : ∀ r ∈ rulesOf L, r.2.length ≤ 20) :
    Calls Tryd.prog 23 #[.slice A n c, .string ⟨t.toArray⟩] w (NdPost (rulesOf L) t w) := by
  have HA := Lib.hid hA
  have HN := Lib.hid hn
  have H20 := Lib.hid h20
  have HLN := Lib.hid (needsR_len h20 t)
  clear hA hn h20
  generalize hbt : (⟨t.toArray⟩ : ByteArray) = bt at *
  have HBT := Lib.hid hbt
  clear hbt
  go_enter Tryd.func23, Tryd.ntmps23
  go_wp2_with fail
  go_loopw [5, 7, 9, 12] (fun v _ _ i wr => ∃ (k : Nat) (A' : Option Addr) (c' : Nat) (zs : List KeyT), i = .int .i64 (k : Int) ∧ k ≤ n ∧ v = .slice A' zs.length c' ∧ zs.length ≤ 20 * k ∧ Hid (zs = needsR ((rulesOf L).take k) t) ∧ Hid (wr.ownsRow w.heap.size 9 1 (.slice A' zs.length c') zs.length (zs.map sv)) ∧ Hid (Below w.heap.size w wr)) (fun _ _ _ i _ => n - (intOf i).toNat)
  case atStart => exact ⟨0, none, 0, [], rfl, by omega, rfl, by simp, Lib.hid rfl, Lib.hid (World.ownsRow_nil _ _ _ _), Lib.hid (Below.refl _ _)⟩
  case round =>
    obtain ⟨k, A', c', zs, rfl, hk, rfl, hzl, HZ, HO, HB⟩ := hrel
    by_cases hlt : k < n
    · obtain ⟨x, hx⟩ : ∃ x, L[k]? = some x := ⟨_, List.getElem?_eq_getElem (by rw [HN.out]; exact hlt)⟩
      have HX := Lib.hid (HA.out.each x (List.mem_of_getElem? hx))
      have HR := Lib.hid (rulesOf_at hx)
      have hr20 := H20.out _ (List.mem_of_getElem? HR.out)
      obtain ⟨b1, o1, rfl, a1, a2⟩ := (HA.out.rd.below HB.out).two hx
      obtain ⟨⟨X1, xc1⟩, ⟨X2, xc2⟩, r⟩ := x
      have hcap : 2 * k = k * 2 := by omega
      rw [hcap] at a1 a2
      unfold RsIn at HX
      simp only [rsT, rsN] at a1 a2 HX HR hr20
      obtain ⟨y, hy⟩ := box_two wr (.slice X1 r.1.length xc1) (.slice X2 r.2.length xc2) 24
      have Y := Lib.hid y
      have HY := Lib.hid (below_newL HB.out hy)
      have HO1 := Lib.hid (own_below HO.out hy)
      have hk1 : (k : Int) < (n : Int) := by omega
      clear hx hcap y hy
      have CP := Lib.hid (place_any (c := xc1) r.1 t (wr.alloc (.cells #[.slice X1 r.1.length xc1, .slice X2 r.2.length xc2] 24)) (HX.out.t.below HY.out) rfl HX.out.tb)
      unfold sv at CP
      rw [HBT.out] at CP
      have HSN : Hid (needsR ((rulesOf L).take (k + 1)) t = if t ∈ r.1 then addAll zs r.2 else zs) := Lib.hid (by rw [take_snocS HR.out, needsR_snoc, HZ.out])
      go_upto_region 5 with fail
      generalize wr.alloc (.cells #[.slice X1 r.1.length xc1, .slice X2 r.2.length xc2] 24) = w1 at *
      obtain ⟨y1, y2⟩ := Y.out
      go_wp2_with fail
      refine CP.out.mono ?_
      rintro e w2 ⟨i, rfl, rfl, hi⟩
      rcases hi with ⟨rfl, hno⟩ | ⟨q, rfl, hq⟩
      · have HS2 : Hid (zs = needsR ((rulesOf L).take (k + 1)) t) := Lib.hid (by rw [HSN.out, if_neg hno])
        clear hno y1 y2
        go_wp2_with fail
        exact ⟨⟨k + 1, A', c', zs, rfl, by omega, rfl, by omega, HS2, HO1, HY⟩, measL hlt⟩
      · have HT : Hid (t ∈ r.1) := Lib.hid (List.mem_of_getElem? hq)
        have k0 : ¬ (q : Int) < 0 := by omega
        clear hq
        have hbsz := HY.out.size
        go_wp2_with fail
        go_loopw [5, 9, 24] (fun v _ i wq => ∃ (j : Nat) (A2 : Option Addr) (c2 : Nat) (ys : List KeyT), i = .int .i64 (j : Int) ∧ j ≤ r.2.length ∧ v = .slice A2 ys.length c2 ∧ ys.length ≤ 20 * k + j ∧ Hid (ys = addAll zs (r.2.take j)) ∧ Hid (wq.ownsRow w.heap.size 9 1 (.slice A2 ys.length c2) ys.length (ys.map sv)) ∧ Hid (Below w.heap.size w wq)) (fun _ _ i _ => r.2.length - (intOf i).toNat)
        case atStart => exact ⟨0, A', c', zs, rfl, by omega, rfl, by omega, Lib.hid rfl, HO1, HY⟩
        case round =>
          obtain ⟨j, A2, c2, ys, rfl, hj, rfl, hyl, HYS, HO2, HB2⟩ := hrel
          by_cases hlt2 : j < r.2.length
          · obtain ⟨u, hu⟩ : ∃ u, r.2[j]? = some u := ⟨_, List.getElem?_eq_getElem hlt2⟩
            obtain ⟨b2, o2, rfl, hc⟩ := (HX.out.n.below HB2.out).scell hu
            have HU := Lib.hid (show addAll zs (r.2.take (j + 1)) = addU ys u by rw [take_snocS hu, addAll_snoc, HYS.out])
            have CP2 := Lib.hid (place_any (c := c2) ys u wr (Rd.of_own HO2.out) rfl (by omega))
            have HO3 := HO2.out
            unfold sv at CP2
            have HSV : Hid (sv u = .string ⟨u.toArray⟩) := Lib.hid rfl
            generalize (⟨u.toArray⟩ : ByteArray) = bu at *
            have hj1 : (j : Int) < (r.2.length : Int) := by omega
            have hszq := HB2.out.size
            clear hu
            have HO4 := Lib.hid HO3
            clear HO3
            go_wp2_with fail
            refine CP2.out.mono ?_
            rintro e w3 ⟨i, rfl, rfl, hi⟩
            rcases hi with ⟨rfl, hno⟩ | ⟨q2, rfl, hq2⟩
            · have HU2 : Hid (ys ++ [u] = addAll zs (r.2.take (j + 1))) := Lib.hid (by rw [HU.out]; unfold addU; rw [if_neg hno])
              clear hno
              go_wp2_with (at_builtin; refine wpList_push elStr wr _ _ w.heap.size A2 ys.length c2 (ys.map sv) (.string bu) HO4.out rfl hszq (by omega) (by omega) rfl rfl rfl rfl ?_; intro A5 c5 w5 hown5 hb5)
              rw [← HSV.out, ← List.map_singleton, ← List.map_append] at hown5
              have HO5 := Lib.hid hown5
              have HB5 := Lib.hid (HB2.out.trans hb5)
              have HL5 : Hid ((ys ++ [u]).length = ys.length + 1) := Lib.hid (by simp)
              clear hown5 hb5
              exact ⟨⟨j + 1, A5, c5, ys ++ [u], rfl, by omega, by rw [HL5.out], by rw [HL5.out]; omega, HU2, Lib.hid (by rw [HL5.out]; exact HO5.out), HB5⟩, measL hlt2⟩
            · have HU2 : Hid (ys = addAll zs (r.2.take (j + 1))) := Lib.hid (by rw [HU.out]; unfold addU; rw [if_pos (List.mem_of_getElem? hq2)])
              have k2 : ¬ (q2 : Int) < 0 := by omega
              clear hq2
              go_wp2_with fail
              exact ⟨⟨j + 1, A2, c2, ys, rfl, by omega, rfl, by omega, HU2, HO2, HB2⟩, measL hlt2⟩
          · obtain rfl : j = r.2.length := by omega
            have HS2 : Hid (ys = needsR ((rulesOf L).take (k + 1)) t) := Lib.hid (by rw [HSN.out, if_pos HT.out, HYS.out, List.take_length])
            go_wp2_with fail
            exact ⟨⟨k + 1, A2, c2, ys, rfl, by omega, rfl, by omega, HS2, HO2, HB2⟩, measL hlt⟩
    · obtain rfl : k = n := by omega
      have HE : Hid (zs = needsR (rulesOf L) t) := Lib.hid (by rw [HZ.out, List.take_of_length_le (by unfold rulesOf; rw [List.length_map, HN.out]; exact Nat.le_refl _)])
      go_wp2_with fail
      go_ret
      exact ⟨A', c', by rw [← HE.out]; rfl, by rw [← HE.out]; exact HO.out, HB.out⟩
end Go.Proofs.YtbgcbigplegpmaaDoor
