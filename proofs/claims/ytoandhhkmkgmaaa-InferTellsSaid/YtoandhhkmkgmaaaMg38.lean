/- Some of the proof's texts, merged; each one's own words stand ahead of it. -/
import Derived.Test.YtoandhhkmkgmaaaMg22
import Derived.Test.YtoandhhkmkgmaaaMg33
import Derived.Test.YtoandhhkmkgmaaaMg26
import Derived.Test.YtoandhhkmkgmaaaMg37
import Derived.Test.YtoandhhkmkgmaaaMg11
import Derived.WalkSpells
import Derived.WalkLawsBesides
import Derived.BigQuiet
import Derived.Deep.QuietTactic
/- Contract: the reference's Calls. Texts of at most 2^20 bytes. -/
namespace Go.Proofs.Ytoandhhkmkgmaaa
open Go.RowKit

/-- Calls as they lie. -/
def calV (cs : List PieceM) : List Value := cs.flatMap fun p => [.bool p.1, sv p.2]
theorem calV_snoc (cs : List PieceM) (p : PieceM) : calV (cs ++ [p]) = calV cs ++ [.bool p.1, sv p.2] := by unfold calV; rw [List.flatMap_append]; rfl
theorem bytesM_at (s : List UInt8) {b : ByteArray} (hb : b = ⟨s.toArray⟩) {k : Nat} (hk : k < b.size) : s[k]? = some b[k] := by
  subst hb
  have h1 : k < s.toArray.size := hk
  rw [show (⟨s.toArray⟩ : ByteArray)[k] = s.toArray[k] from rfl]
  simp at h1 ⊢
theorem extM (l : List UInt8) (a b : Nat) : (⟨l.toArray⟩ : ByteArray).extract a b = ⟨((l.drop a).take (b - a)).toArray⟩ := by
  have h : ((⟨l.toArray⟩ : ByteArray).extract a b).data.toList = (l.drop a).take (b - a) := Lib.extract_data _ _ _
  apply ByteArray.ext
  apply Array.ext'
  rw [h]
theorem dropM {s : List UInt8} {k : Nat} {c : UInt8} (h : s[k]? = some c) : s.drop k = c :: s.drop (k + 1) := by
  obtain ⟨hlt, hx⟩ := List.getElem?_eq_some_iff.1 h
  rw [← hx]
  exact List.drop_eq_getElem_cons hlt
theorem cut_at {r : List UInt8} {j : Nat} {c : UInt8} (h : r[j]? = some c) (hall : ∀ i, i < j → r[i]? ≠ some c) : Lib.cut r [c] = (r.take j, r.drop (j + 1), true) := by
  rcases cut_ways r c with ⟨_, h2⟩ | ⟨i, hi, h1, h2, h3⟩
  · exact absurd (List.mem_of_getElem? h) h2
  · have hic : r[i]? = some c := by
      rw [h3, List.getElem?_append_right (by simp; omega)]
      simp [Nat.min_eq_left (Nat.le_of_lt hi)]
    have : i = j := by
      rcases Nat.lt_trichotomy i j with hlt | he | hgt
      · exact absurd hic (hall i hlt)
      · exact he
      · exfalso
        apply h2
        rw [List.mem_iff_getElem?]
        exact ⟨j, by rw [List.getElem?_take, if_pos hgt]; exact h⟩
    rw [h1, this]
theorem cut_miss {r : List UInt8} {c : UInt8} (hall : ∀ i : Nat, r[i]? ≠ some c) : Lib.cut r [c] = (r, [], false) := by
  rcases cut_ways r c with ⟨h1, _⟩ | ⟨i, hi, h1, h2, h3⟩
  · exact h1
  · exact absurd (by
      rw [h3, List.getElem?_append_right (by simp; omega)]
      simp [Nat.min_eq_left (Nat.le_of_lt hi)]) (hall i)
theorem pfx1 (c d : UInt8) (r : List UInt8) : Lib.hasPrefix (d :: r) [c] = (c == d) := by
  unfold Lib.hasPrefix
  simp [List.isPrefixOf]
theorem pfx0 (c : UInt8) : Lib.hasPrefix [] [c] = false := rfl
theorem trim1 (c : UInt8) (r : List UInt8) : Lib.trimPrefix (c :: r) [c] = r := by
  unfold Lib.trimPrefix
  simp [Lib.hasPrefix, List.isPrefixOf]
section
variable {s : List UInt8} {k : Nat}
theorem callsR_end (h : s.length ≤ k) : callsR (s.drop k) = some [] := by rw [List.drop_of_length_le h]; rfl
theorem callsR_text {c : UInt8} (h : s[k]? = some c) (hc : c ≠ 36) : callsR (s.drop k) = (callsR (s.drop (k + 1))).map ((false, [c]) :: ·) := by
  rw [dropM h, callsR_cons, if_neg hc]
theorem callsR_last (h : s[k]? = some 36) (hl : s.length ≤ k + 1) : callsR (s.drop k) = none := by
  rw [dropM h, List.drop_of_length_le hl, callsR_cons, if_pos rfl, if_neg (by rw [pfx0]; decide), if_neg]
  rintro ⟨h1, _⟩
  cases h1
theorem callsR_two (h : s[k]? = some 36) (h2 : s[k + 1]? = some 36) : callsR (s.drop k) = (callsR (s.drop (k + 1 + 1))).map ((false, [36]) :: ·) := by
  rw [dropM h, callsR_cons, if_pos rfl, dropM h2, if_pos (by rw [pfx1]; rfl), trim1]
theorem callsR_name {e : Nat} (h : s[k]? = some 36) (h2 : s[k + 1]? = some 40) (hke : k + 2 ≤ e) (he : s[e]? = some 41) (hall : ∀ i, k + 1 ≤ i → i < e → s[i]? ≠ some 41) (hg : goodName ((s.drop (k + 2)).take (e - (k + 2))) = true) :
    callsR (s.drop k) = (callsR (s.drop (e + 1))).map ((true, (s.drop (k + 2)).take (e - (k + 2))) :: ·) := by
  have hcut : Lib.cut (s.drop (k + 1)) [41] = ((s.drop (k + 1)).take (e - (k + 1)), (s.drop (k + 1)).drop (e - (k + 1) + 1), true) :=
    cut_at (by rw [List.getElem?_drop, show k + 1 + (e - (k + 1)) = e by omega]; exact he) (fun i hi => by rw [List.getElem?_drop]; exact hall _ (by omega) (by omega))
  have hd : (s.drop (k + 1)).take (e - (k + 1)) = 40 :: (s.drop (k + 2)).take (e - (k + 2)) := by
    rw [dropM h2, show e - (k + 1) = e - (k + 2) + 1 by omega, List.take_succ_cons]
  have hdd : (s.drop (k + 1)).drop (e - (k + 1) + 1) = s.drop (e + 1) := by rw [List.drop_drop, show k + 1 + (e - (k + 1) + 1) = e + 1 by omega]
  rw [dropM h, callsR_cons, if_pos rfl, hcut, hd, hdd, if_neg (by rw [dropM h2, pfx1]; decide)]
  simp only []
  rw [trim1, if_pos ⟨by rw [pfx1]; rfl, by trivial, hg⟩]
theorem callsR_bad {d : UInt8} (h : s[k]? = some 36) (h2 : s[k + 1]? = some d) (hd : d ≠ 36) (hx : d ≠ 40 ∨ (∀ i : Nat, k + 1 ≤ i → s[i]? ≠ some 41) ∨ ∃ e, k + 2 ≤ e ∧ s[e]? = some 41 ∧ (∀ i, k + 1 ≤ i → i < e → s[i]? ≠ some 41) ∧ goodName ((s.drop (k + 2)).take (e - (k + 2))) = false) :
    callsR (s.drop k) = none := by
  rw [dropM h, callsR_cons, if_pos rfl, if_neg (by rw [dropM h2, pfx1]; simpa using fun e => hd e.symm), if_neg]
  rintro ⟨g1, g2, g3⟩
  rcases hx with hx | hx | ⟨e, hke, he, hall, hg⟩
  · rcases cut_ways (s.drop (k + 1)) 41 with ⟨q, _⟩ | ⟨i, hi, q, _, _⟩
    · rw [q] at g2; cases g2
    · rw [q, dropM h2] at g1
      cases i with
      | zero => simp [pfx0] at g1
      | succ i => rw [List.take_succ_cons, pfx1] at g1; exact hx (beq_iff_eq.1 g1).symm
  · rw [cut_miss (fun i => by rw [List.getElem?_drop]; exact hx _ (by omega))] at g2
    cases g2
  · have hcut : Lib.cut (s.drop (k + 1)) [41] = ((s.drop (k + 1)).take (e - (k + 1)), (s.drop (k + 1)).drop (e - (k + 1) + 1), true) :=
      cut_at (by rw [List.getElem?_drop, show k + 1 + (e - (k + 1)) = e by omega]; exact he) (fun i hi => by rw [List.getElem?_drop]; exact hall _ (by omega) (by omega))
    rw [hcut] at g1 g3
    simp only [] at g1 g3
    rw [dropM h2, show e - (k + 1) = e - (k + 2) + 1 by omega, List.take_succ_cons] at g1 g3
    rw [pfx1] at g1
    have : d = 40 := (beq_iff_eq.1 g1).symm
    subst this
    rw [trim1] at g3
    rw [g3] at hg
    cases hg
end
theorem elCal : El2 Try.prog 35 72 24 := El2.mk' (by kernel_rfl) (z := .agg #[.bool false, .string ⟨#[]⟩]) (by kernel_rfl) rfl
/-- What Calls tells. -/
def CallsPost (s : List UInt8) (w : World) (e : Ending) (w' : World) : Prop :=
  Below w.heap.size w w' ∧ match callsR s with
    | none => e = .returned (.tuple #[.slice none 0 0, .bool false])
    | some cs => ∃ A c, e = .returned (.tuple #[.slice A cs.length c, .bool true]) ∧ w'.ownsRow w.heap.size 72 2 (.slice A cs.length c) cs.length (calV cs) ∧ cs.length ≤ s.length
theorem callsPost_no {s : List UInt8} {w w' : World} (hb : Below w.heap.size w w') (h : callsR s = none) : CallsPost s w (.returned (.tuple #[.slice none 0 0, .bool false])) w' := ⟨hb, by rw [h]⟩
theorem byte_ne {x : UInt8} {c : Nat} (h : x ≠ UInt8.ofNat c) : ¬ ((x.toNat : Nat) : Int) = (c : Int) := by
  intro e
  apply h
  have : x.toNat = c := by omega
  rw [← this]
  simp
set_option maxRecDepth 100000 in
set_option maxHeartbeats 4000000 in
theorem rCalls_any (s : List UInt8) (w : World) (hl : s.length ≤ 1048640) :
    Calls Try.prog 12 #[sv s] w (CallsPost s w) := by
  obtain ⟨b, hb⟩ : ∃ b : ByteArray, b = ⟨s.toArray⟩ := ⟨_, rfl⟩
  have e0 : sv s = .string b := by rw [hb]; rfl
  rw [e0]
  have hsz : b.size = s.length := by rw [hb]; simp [ByteArray.size]
  have HB := Lib.hid hb
  have HSZ := Lib.hid hsz
  have hbs : b.size ≤ 1048640 := by omega
  clear hb hsz hl e0
  go_enter Try.func12, Try.ntmps12
  go_wp2_with fail
  go_loopw [4, 5, 6] (fun v i _ wr => ∃ (k n : Nat) (A : Option Addr) (c : Nat) (cs : List PieceM), i = .int .i64 (k : Int) ∧ k ≤ b.size ∧ v = .slice A n c ∧ n ≤ k ∧ Hid (cs.length = n) ∧ Hid (callsR s = (callsR (s.drop k)).map (cs ++ ·)) ∧ Hid (wr.ownsRow w.heap.size 72 2 (.slice A n c) n (calV cs)) ∧ Hid (Below w.heap.size w wr)) (fun _ i _ _ => b.size - (intOf i).toNat)
  case atStart => exact ⟨0, 0, none, 0, [], rfl, by omega, rfl, by omega, Lib.hid rfl, Lib.hid (by rw [List.drop_zero]; cases callsR s <;> simp), Lib.hid (World.ownsRow_nil _ _ _ _), Lib.hid (Below.refl _ _)⟩
  case round =>
    obtain ⟨k, n, A, c, cs, rfl, hk, rfl, hn, HN, HC, HO, HBW⟩ := hrel
    have hbw := HBW.out.size
    by_cases hlt : k < b.size
    · have HX := Lib.hid (bytesM_at s HB.out hlt)
      by_cases hx : b[k] = 36
      · have HX36 : Hid (s[k]? = some 36) := Lib.hid (by rw [HX.out, hx])
        have hce : ((b[k].toNat : Nat) : Int) = 36 := by rw [hx]; rfl
        clear hx
        by_cases hl2 : k + 1 < b.size
        · have HX2 := Lib.hid (bytesM_at s HB.out hl2)
          by_cases hy : b[k + 1] = 36
          · have HY36 : Hid (s[k + 1]? = some 36) := Lib.hid (by rw [HX2.out, hy])
            have hcy : ((b[k + 1].toNat : Nat) : Int) = 36 := by rw [hy]; rfl
            have HC2 : Hid (callsR s = (callsR (s.drop (k + 1 + 1))).map ((cs ++ [(false, [36])]) ++ ·)) := Lib.hid (by
              rw [HC.out, callsR_two HX36.out HY36.out]
              cases callsR (s.drop (k + 1 + 1)) <;> simp)
            clear hy
            go_wp2_with (at_builtin; refine wpList_push2 elCal wr _ _ w.heap.size A n c (calV cs) _ _ (by rfl) (by rfl) HO.out hbw (by omega) (by omega) rfl rfl rfl rfl ?_; intro g' c' w1 hown1 hb1 _)
            exact ⟨⟨k + 1 + 1, n + 1, _, c', cs ++ [(false, [36])], by go_num, by omega, rfl, by omega, Lib.hid (by rw [List.length_append, HN.out]; rfl), HC2, Lib.hid (by rw [calV_snoc]; exact hown1), Lib.hid (HBW.out.trans hb1)⟩, by simp [intOf]; omega⟩
          · have hcy : ¬ ((b[k + 1].toNat : Nat) : Int) = 36 := byte_ne (c := 36) hy
            have HY := Lib.hid hy
            clear hy
            go_wp2_with fail
            go_loop [6] (fun v => ∃ e : Nat, v = .int .i64 (e : Int) ∧ k + 1 ≤ e ∧ e ≤ b.size ∧ Hid (∀ i, k + 1 ≤ i → i < e → s[i]? ≠ some 41)) (fun v => b.size - (intOf v).toNat)
            case atStart => exact ⟨k + 1, by go_num, by omega, by omega, Lib.hid (fun i h1 h2 => by omega)⟩
            case round =>
              obtain ⟨e, rfl, hke, he, HALL⟩ := hrel
              by_cases hle : e < b.size
              · have HXE := Lib.hid (bytesM_at s HB.out hle)
                by_cases hz : b[e] = 41
                · have hcz : ((b[e].toNat : Nat) : Int) = 41 := by rw [hz]; rfl
                  have HE41 : Hid (s[e]? = some 41) := Lib.hid (by rw [HXE.out, hz])
                  clear hz
                  by_cases hq : b[k + 1] = 40
                  · have hcq : ((b[k + 1].toNat : Nat) : Int) = 40 := by rw [hq]; rfl
                    have HQ40 : Hid (s[k + 1]? = some 40) := Lib.hid (by rw [HX2.out, hq])
                    have hke2 : k + 2 ≤ e := by
                      rcases Nat.lt_or_ge e (k + 2) with h | h
                      · have : e = k + 1 := by omega
                        have h1 := HE41.out
                        rw [this, HQ40.out] at h1
                        cases h1
                      · exact h
                    clear hq
                    have HEX : Hid (Value.string (b.extract (k + 2) e) = sv ((s.drop (k + 2)).take (e - (k + 2)))) := Lib.hid (by
                      unfold sv
                      rw [show b.extract (k + 2) e = (⟨s.toArray⟩ : ByteArray).extract (k + 2) e by rw [← HB.out], extM])
                    have HG : Hid (∀ W, Calls Try.prog 25 #[.string (b.extract (k + 2) e)] W fun e' w' => e' = .returned (.bool (goodName ((s.drop (k + 2)).take (e - (k + 2))))) ∧ W = w') := Lib.hid (fun W => by
                      rw [HEX.out]
                      exact goodName_any _ W (by simp only [List.length_take, List.length_drop]; have := HSZ.out; omega))
                    have HCN := Lib.hid (fun h => callsR_name HX36.out HQ40.out hke2 HE41.out HALL.out h)
                    have HCB := Lib.hid (fun h => callsR_bad HX36.out HX2.out HY.out (.inr (.inr ⟨e, hke2, HE41.out, HALL.out, h⟩)))
                    cases hg : goodName ((s.drop (k + 2)).take (e - (k + 2))) with
                    | true =>
                      have HC2 : Hid (callsR s = (callsR (s.drop (e + 1))).map ((cs ++ [(true, (s.drop (k + 2)).take (e - (k + 2)))]) ++ ·)) := Lib.hid (by
                        rw [HC.out, HCN.out hg]
                        cases callsR (s.drop (e + 1)) <;> simp)
                      rw [hg] at HG
                      clear hg
                      go_wp2_with fail
                      refine (HG.out _).mono ?_
                      rintro e2 w2 ⟨rfl, rfl⟩
                      go_wp2_with (at_builtin; refine wpList_push2 elCal wr _ _ w.heap.size A n c (calV cs) _ _ (by rfl) (by rfl) HO.out hbw (by omega) (by omega) rfl rfl rfl rfl ?_; intro g' c' w1 hown1 hb1 _)
                      have hown2 := (congrArg (fun v => w1.ownsRow w.heap.size 72 2 (.slice (some ⟨g', 0, none⟩) (n + 1) c') (n + 1) (calV cs ++ [.bool true, v])) HEX.out).mp hown1
                      exact ⟨⟨e + 1, n + 1, _, c', cs ++ [(true, (s.drop (k + 2)).take (e - (k + 2)))], by go_num, by omega, rfl, by omega, Lib.hid (by rw [List.length_append, HN.out]; rfl), HC2, Lib.hid (by rw [calV_snoc]; exact hown2), Lib.hid (HBW.out.trans hb1)⟩, by simp [intOf]; omega⟩
                    | false =>
                      have HNO : Hid (callsR s = none) := Lib.hid (by rw [HC.out, HCB.out hg]; rfl)
                      rw [hg] at HG
                      clear hg
                      go_wp2_with fail
                      refine (HG.out _).mono ?_
                      rintro e2 w2 ⟨rfl, rfl⟩
                      go_wp2_with fail
                      go_ret2
                      exact callsPost_no HBW.out HNO.out
                  · have hcq : ¬ ((b[k + 1].toNat : Nat) : Int) = 40 := byte_ne (c := 40) hq
                    have HNO : Hid (callsR s = none) := Lib.hid (by rw [HC.out, callsR_bad HX36.out HX2.out HY.out (.inl hq)]; rfl)
                    clear hq
                    go_wp2_with fail
                    go_ret2
                    exact callsPost_no HBW.out HNO.out
                · have hcz : ¬ ((b[e].toNat : Nat) : Int) = 41 := byte_ne (c := 41) hz
                  have HALL2 : Hid (∀ i, k + 1 ≤ i → i < e + 1 → s[i]? ≠ some 41) := Lib.hid (fun i h1 h2 => by
                    by_cases hie : i = e
                    · subst hie; rw [HXE.out]; intro h; injection h with h; exact hz h
                    · exact HALL.out i h1 (by omega))
                  clear hz
                  go_wp2_with fail
                  go_round
                  case rel => exact ⟨e + 1, by go_num, by omega, by omega, HALL2⟩
                  case measure => simp [intOf]; omega
              · obtain rfl : e = b.size := by omega
                have HNO : Hid (callsR s = none) := Lib.hid (by
                  rw [HC.out, callsR_bad HX36.out HX2.out HY.out (.inr (.inl (fun i hi => by
                    rcases Nat.lt_or_ge i b.size with h | h
                    · exact HALL.out i hi h
                    · rw [List.getElem?_eq_none (by have := HSZ.out; omega)]; exact fun h => by cases h)))]
                  rfl)
                by_cases hq : b[k + 1] = 40
                · have hcq : ((b[k + 1].toNat : Nat) : Int) = 40 := by rw [hq]; rfl
                  clear hq
                  go_wp2_with fail
                  go_ret2
                  exact callsPost_no HBW.out HNO.out
                · have hcq : ¬ ((b[k + 1].toNat : Nat) : Int) = 40 := byte_ne (c := 40) hq
                  clear hq
                  go_wp2_with fail
                  go_ret2
                  exact callsPost_no HBW.out HNO.out
        · have HNO : Hid (callsR s = none) := Lib.hid (by rw [HC.out, callsR_last HX36.out (by have := HSZ.out; omega)]; rfl)
          have hk2 : ((k : Int) + 1 == (b.size : Int)) = true := by simp; omega
          go_wp2_with fail
          go_ret2
          exact callsPost_no HBW.out HNO.out
      · have hce : ¬ ((b[k].toNat : Nat) : Int) = 36 := byte_ne (c := 36) hx
        have HE : Hid (Value.string (b.extract k (k + 1)) = sv [b[k]]) := Lib.hid (by
          unfold sv
          rw [show b.extract k (k + 1) = (⟨s.toArray⟩ : ByteArray).extract k (k + 1) by rw [← HB.out], extM, dropM HX.out, show k + 1 - k = 1 by omega]
          rfl)
        have HC2 : Hid (callsR s = (callsR (s.drop (k + 1))).map ((cs ++ [(false, [b[k]])]) ++ ·)) := Lib.hid (by
          rw [HC.out, callsR_text HX.out hx]
          cases callsR (s.drop (k + 1)) <;> simp)
        clear hx
        go_wp2_with (at_builtin; refine wpList_push2 elCal wr _ _ w.heap.size A n c (calV cs) _ _ (by rfl) (by rfl) HO.out hbw (by omega) (by omega) rfl rfl rfl rfl ?_; intro g' c' w1 hown1 hb1 _)
        rw [HE.out] at hown1
        exact ⟨⟨k + 1, n + 1, _, c', cs ++ [(false, [b[k]])], by go_num, by omega, rfl, by omega, Lib.hid (by rw [List.length_append, HN.out]; rfl), HC2, Lib.hid (by rw [calV_snoc]; exact hown1), Lib.hid (HBW.out.trans hb1)⟩, by simp [intOf]; omega⟩
    · obtain rfl : k = b.size := by omega
      have HE : Hid (callsR s = some cs) := Lib.hid (by rw [HC.out, callsR_end (by rw [HSZ.out]; exact Nat.le_refl _)]; simp)
      go_wp2_with fail
      go_ret2
      refine ⟨HBW.out, ?_⟩
      rw [HE.out]
      exact ⟨A, c, by rw [HN.out]; rfl, by rw [HN.out]; exact HO.out, by have := HN.out; have := HSZ.out; omega⟩
end Go.Proofs.Ytoandhhkmkgmaaa
/- Contracts: the reference's Called, macroNames, flatten. At most 2^20 calls, 2^20 macros. -/
namespace Go.Proofs.Ytoandhhkmkgmaaa
open Go.RowKit

theorem Rd.calls {w : World} {A : Option Addr} {cs : List PieceM} (h : Rd w A (calV cs)) {i : Nat} {x : PieceM} (hi : cs[i]? = some x) : ∃ b off, A = some ⟨b, off, none⟩ ∧ w.cell? ⟨b, off + i * 2, none⟩ = some (.bool x.1) ∧ w.cell? ⟨b, off + i * 2 + 1, none⟩ = some (sv x.2) := by
  obtain ⟨b, off, h1, h2, h3⟩ := Rd.two h hi
  rw [Nat.mul_comm] at h2 h3
  exact ⟨b, off, h1, h2, h3⟩
theorem Rd.macs {w : World} {A : Option Addr} {l : List MacT} (h : Rd w A (macV l)) {i : Nat} {x : MacT} (hi : l[i]? = some x) : ∃ b off, A = some ⟨b, off, none⟩ ∧ w.cell? ⟨b, off + i * 2, none⟩ = some (sv x.1) ∧ w.cell? ⟨b, off + i * 2 + 1, none⟩ = some (sv x.2) := by
  obtain ⟨b, off, h1, h2, h3⟩ := Rd.two h hi
  rw [Nat.mul_comm] at h2 h3
  exact ⟨b, off, h1, h2, h3⟩
theorem stepU_text {us : List (List UInt8)} (x : List UInt8) : stepU us (false, x) = us := by unfold stepU; simp
theorem stepU_old {us : List (List UInt8)} {x : List UInt8} (h : x ∈ us) : stepU us (true, x) = us := by unfold stepU inL; simp [h]
theorem stepU_new {us : List (List UInt8)} {x : List UInt8} (h : x ∉ us) : stepU us (true, x) = us ++ [x] := by unfold stepU inL; simp [h]
/-- A slice of texts of the call's own. -/
def OwnTexts (us : List (List UInt8)) (w : World) (e : Ending) (w' : World) : Prop :=
  ∃ A c, e = .returned (.slice A us.length c) ∧ w'.ownsRow w.heap.size 9 1 (.slice A us.length c) us.length (us.map sv) ∧ Below w.heap.size w w'
set_option maxRecDepth 100000 in
set_option maxHeartbeats 2000000 in
theorem rNames_any {A : Option Addr} {n c : Nat} (l : List MacT) (w : World) (hr : Rd w A (macV l)) (hn : l.length = n) (hb : n ≤ 1048640) :
    Calls Try.prog 35 #[.slice A n c] w (OwnTexts (namesL l) w) := by
  have HR := Lib.hid hr
  have HN := Lib.hid hn
  clear hr hn
  go_enter Try.func35, Try.ntmps35
  go_wp2_with fail
  go_loopw [3, 5, 8] (fun v _ i wr => ∃ (q : Nat) (AO : Option Addr) (cO : Nat), i = .int .i64 (q : Int) ∧ q ≤ n ∧ v = .slice AO q cO ∧ Hid (wr.ownsRow w.heap.size 9 1 (.slice AO q cO) q (((namesL l).take q).map sv)) ∧ Hid (Below w.heap.size w wr)) (fun _ _ i _ => n - (intOf i).toNat)
  case atStart => exact ⟨0, none, 0, rfl, by omega, rfl, Lib.hid (World.ownsRow_nil _ _ _ _), Lib.hid (Below.refl _ _)⟩
  case round =>
    obtain ⟨q, AO, cO, rfl, hq, rfl, HO, HBW⟩ := hrel
    by_cases hlt : q < n
    · obtain ⟨x, hx⟩ : ∃ x, l[q]? = some x := ⟨_, List.getElem?_eq_getElem (by rw [HN.out]; exact hlt)⟩
      obtain ⟨b, off, rfl, c0, c1⟩ := (HR.out.below HBW.out).macs hx
      have HNX := Lib.hid (names_at hx)
      obtain ⟨bn, hbn⟩ : ∃ bn, sv x.1 = .string bn := ⟨_, rfl⟩
      obtain ⟨bv, hbv⟩ : ∃ bv, sv x.2 = .string bv := ⟨_, rfl⟩
      rw [hbn] at c0
      rw [hbv] at c1
      have HBN := Lib.hid hbn
      have HB1 := Lib.hid (HBW.out.alloc HBW.out.size (.cells #[.string bn, .string bv] 25))
      have HO1 := Lib.hid (HO.out.alloc (.cells #[.string bn, .string bv] 25))
      have hsz := HB1.out.size
      have yb := (Blk.new wr #[.string bn, .string bv] 25).cell (j := 0) rfl
      clear hx hbn hbv
      go_upto_region 5 with fail
      generalize hw3 : wr.alloc (.cells #[.string bn, .string bv] 25) = w3 at *
      clear hw3
      go_wp2_with (at_builtin; refine wpList_push elStr _ _ _ w.heap.size AO q cO _ (.string bn) HO1.out rfl hsz (by omega) (by omega) rfl rfl rfl rfl ?_; intro A' c' w1 hown1 hb1)
      exact ⟨⟨q + 1, A', c', by go_num, by omega, rfl, Lib.hid (by rw [takeS_M HNX.out, List.map_append, List.map_singleton, HBN.out]; exact hown1), Lib.hid (HB1.out.trans hb1)⟩, by simp [intOf]; omega⟩
    · obtain rfl : q = n := by omega
      go_wp2_with fail
      go_ret
      have hnl : (namesL l).length = q := by rw [names_len]; exact HN.out
      refine ⟨AO, cO, by rw [hnl]; rfl, ?_, HBW.out⟩
      have h := HO.out
      rw [← hnl, List.take_length, hnl] at h
      rw [hnl]
      exact h
set_option maxRecDepth 100000 in
set_option maxHeartbeats 2000000 in
theorem rCalled_any {A : Option Addr} {n c : Nat} (cs : List PieceM) (w : World) (hr : Rd w A (calV cs)) (hn : cs.length = n) (hb : n ≤ 1048640) :
    Calls Try.prog 17 #[.slice A n c] w (OwnTexts (usesP cs) w) := by
  have HR := Lib.hid hr
  have HN := Lib.hid hn
  clear hr hn
  go_enter Try.func17, Try.ntmps17
  go_wp2_with fail
  go_loopw [3, 5, 8] (fun v _ i wr => ∃ (q k : Nat) (us : List (List UInt8)) (AO : Option Addr) (cO : Nat), i = .int .i64 (q : Int) ∧ q ≤ n ∧ k ≤ q ∧ v = .slice AO k cO ∧ Hid (usesP (cs.take q) = us) ∧ Hid (us.length = k) ∧ Hid (wr.ownsRow w.heap.size 9 1 (.slice AO k cO) k (us.map sv)) ∧ Hid (Below w.heap.size w wr)) (fun _ _ i _ => n - (intOf i).toNat)
  case atStart => exact ⟨0, 0, [], none, 0, rfl, by omega, by omega, rfl, Lib.hid rfl, Lib.hid rfl, Lib.hid (World.ownsRow_nil _ _ _ _), Lib.hid (Below.refl _ _)⟩
  case round =>
    obtain ⟨q, k, us, AO, cO, rfl, hq, hk, rfl, HU, HK, HO, HBW⟩ := hrel
    by_cases hlt : q < n
    · obtain ⟨x, hx⟩ : ∃ x, cs[q]? = some x := ⟨_, List.getElem?_eq_getElem (by rw [HN.out]; exact hlt)⟩
      obtain ⟨b, off, rfl, c0, c1⟩ := (HR.out.below HBW.out).calls hx
      have HX : Hid (usesP (cs.take (q + 1)) = stepU us x) := Lib.hid (by rw [takeS_any hx, usesP_more, HU.out])
      obtain ⟨p, t⟩ := x
      simp only [] at c0 c1
      obtain ⟨bt, hbt⟩ : ∃ bt, sv t = .string bt := ⟨_, rfl⟩
      rw [hbt] at c1
      have HBT := Lib.hid hbt
      have HB1 := Lib.hid (HBW.out.alloc HBW.out.size (.cells #[.bool p, .string bt] 72))
      have HO1 := Lib.hid (HO.out.alloc (.cells #[.bool p, .string bt] 72))
      have hsz := HB1.out.size
      have HP : Hid (Calls Try.prog 34 #[.slice AO k cO, .string bt] (wr.alloc (.cells #[.bool p, .string bt] 72)) (PlaceIs us t (wr.alloc (.cells #[.bool p, .string bt] 72)))) := Lib.hid (by
        have h := place_any (c := cO) us t _ (Rd.of_own HO1.out) HK.out (by omega)
        rw [hbt] at h
        exact h)
      have yb0 := (Blk.new wr #[.bool p, .string bt] 72).cell (j := 0) rfl
      have yb1 := (Blk.new wr #[.bool p, .string bt] 72).cell (j := 1) rfl
      clear hx hbt
      go_upto_region 5 with fail
      generalize hw3 : wr.alloc (.cells #[.bool p, .string bt] 72) = w3 at *
      clear hw3
      cases p with
      | false =>
        rw [stepU_text] at HX
        go_wp2_with fail
        exact ⟨⟨q + 1, k, us, AO, cO, by go_num, by omega, by omega, rfl, HX, HK, HO1, HB1⟩, by simp [intOf]; omega⟩
      | true =>
        go_wp2_with fail
        refine HP.out.mono ?_
        rintro e w2 ⟨r, rfl, rfl, hr⟩
        rcases hr with ⟨rfl, hno⟩ | ⟨j, rfl, hj⟩
        · rw [stepU_new hno] at HX
          clear hno
          go_wp2_with (at_builtin; refine wpList_push elStr _ _ _ w.heap.size AO k cO _ (.string bt) HO1.out rfl hsz (by omega) (by omega) rfl rfl rfl rfl ?_; intro A' c' w1 hown1 hb1)
          exact ⟨⟨q + 1, k + 1, us ++ [t], A', c', by go_num, by omega, by omega, rfl, HX, Lib.hid (by rw [List.length_append, HK.out]; rfl), Lib.hid (by rw [List.map_append, List.map_singleton, HBT.out]; exact hown1), Lib.hid (HB1.out.trans hb1)⟩, by simp [intOf]; omega⟩
        · rw [stepU_old (List.mem_of_getElem? hj)] at HX
          clear hj
          go_wp2_with fail
          exact ⟨⟨q + 1, k, us, AO, cO, by go_num, by omega, by omega, rfl, HX, HK, HO1, HB1⟩, by simp [intOf]; omega⟩
    · obtain rfl : q = n := by omega
      go_wp2_with fail
      go_ret
      have hu := HU.out
      rw [← HN.out, List.take_length] at hu
      refine ⟨AO, cO, by rw [hu, HK.out]; rfl, ?_, HBW.out⟩
      rw [hu, HK.out]
      exact HO.out
theorem putIn_more (look : List UInt8 → List UInt8) (cs : List PieceM) (p : PieceM) : putIn look (cs ++ [p]) = putIn look cs ++ (if p.1 = true then look p.2 else p.2) := by unfold putIn; rw [List.flatMap_append]; simp
theorem putIn_le (look : List UInt8 → List UInt8) (cs : List PieceM) (q : Nat) : (putIn look (cs.take q)).length ≤ (putIn look cs).length := by
  conv => rhs; rw [← List.take_append_drop q cs]
  unfold putIn
  rw [List.flatMap_append, List.length_append]
  omega
def FlattenPost (look : List UInt8 → List UInt8) (cs : List PieceM) (w : World) (e : Ending) (w' : World) : Prop :=
  Below w.heap.size w w' ∧ e = .returned (if (putIn look cs).length ≤ 2000 then .tuple #[sv (putIn look cs), .bool true] else .tuple #[.string ⟨#[]⟩, .bool false])
set_option maxRecDepth 100000 in
set_option maxHeartbeats 2000000 in
theorem rFlatten_any {A B : Option Addr} {n c k d : Nat} (F : List MacT) (look : List UInt8 → List UInt8) (cs : List PieceM) (w : World) (hf : Rd w A (macV F)) (hfn : F.length = n) (hn : n ≤ 1048640) (hr : Rd w B (calV cs)) (hk : cs.length = k) (hb : k ≤ 1048640)
    (hnd : (namesL F).Nodup) (hlook : ∀ m ∈ F, look m.1 = m.2) (hin : ∀ u, (true, u) ∈ cs → u ∈ namesL F) (hsh : ∀ p ∈ cs, p.2.length ≤ 1048640) (hsf : ∀ m ∈ F, m.2.length ≤ 1048640) :
    Calls Try.prog 36 #[.slice A n c, .slice B k d] w (FlattenPost look cs w) := by
  have HF := Lib.hid hf
  have HFN := Lib.hid hfn
  have HR := Lib.hid hr
  have HK := Lib.hid hk
  have HND := Lib.hid hnd
  have HLK := Lib.hid hlook
  have HIN := Lib.hid hin
  have HSH := Lib.hid hsh
  have HSF := Lib.hid hsf
  clear hf hfn hr hk hnd hlook hin hsh hsf
  go_enter Try.func36, Try.ntmps36
  go_wp2_with fail
  go_loopw [6, 8, 9, 12] (fun v _ _ i wr => ∃ (q : Nat), i = .int .i64 (q : Int) ∧ q ≤ k ∧ v = sv (putIn look (cs.take q)) ∧ Hid ((putIn look (cs.take q)).length ≤ 2000) ∧ Hid (Below w.heap.size w wr)) (fun _ _ _ i _ => k - (intOf i).toNat)
  case atStart => exact ⟨0, rfl, by omega, rfl, Lib.hid (by simp [putIn]), Lib.hid (Below.refl _ _)⟩
  case round =>
    obtain ⟨q, rfl, hq, rfl, HO, HBW⟩ := hrel
    by_cases hlt : q < k
    · obtain ⟨x, hx⟩ : ∃ x, cs[q]? = some x := ⟨_, List.getElem?_eq_getElem (by rw [HK.out]; exact hlt)⟩
      obtain ⟨b, off, rfl, c0, c1⟩ := (HR.out.below HBW.out).calls hx
      have HX : Hid (putIn look (cs.take (q + 1)) = putIn look (cs.take q) ++ (if x.1 = true then look x.2 else x.2)) := Lib.hid (by rw [takeS_any hx, putIn_more])
      have HXL : Hid ((if x.1 = true then look x.2 else x.2).length ≤ 1048640) := Lib.hid (by
        obtain ⟨p, t⟩ := x
        cases p with
        | false => exact HSH.out _ (List.mem_of_getElem? hx)
        | true =>
          obtain ⟨m, hm, hmn⟩ := List.mem_map.1 (HIN.out t (List.mem_of_getElem? hx))
          show (look t).length ≤ _
          rw [← hmn, HLK.out m hm]
          exact HSF.out m hm)
      have HMX := Lib.hid (List.mem_of_getElem? hx)
      have HTOT : Hid ((putIn look (cs.take (q + 1))).length ≤ (putIn look cs).length) := Lib.hid (putIn_le _ _ _)
      obtain ⟨p, t⟩ := x
      simp only [] at c0 c1 HX HXL
      obtain ⟨bt, hbt⟩ : ∃ bt, sv t = .string bt := ⟨_, rfl⟩
      rw [hbt] at c1
      have HBT := Lib.hid hbt
      have HB1 := Lib.hid (HBW.out.alloc HBW.out.size (.cells #[.bool p, .string bt] 72))
      have yb0 := (Blk.new wr #[.bool p, .string bt] 72).cell (j := 0) rfl
      have yb1 := (Blk.new wr #[.bool p, .string bt] 72).cell (j := 1) rfl
      clear hx hbt
      go_upto_region 5 with fail
      generalize hw3 : wr.alloc (.cells #[.bool p, .string bt] 72) = w3 at *
      clear hw3
      generalize hpo : putIn look (cs.take q) = po at *
      have HPO := Lib.hid hpo
      obtain ⟨bo, hbo⟩ : ∃ bo, (⟨po.toArray⟩ : ByteArray) = bo := ⟨_, rfl⟩
      have hbs : bo.size ≤ 2000 := by rw [← hbo]; exact HO.out
      have HBO : Hid (bo.size = po.length) := Lib.hid (by rw [← hbo]; rfl)
      have hso : sv po = .string bo := by unfold sv; rw [hbo]
      rw [hso]
      have HSO := Lib.hid hbo
      clear hpo hbo hso
      cases p with
      | false =>
        simp only [Bool.false_eq_true, if_false] at HX HXL
        have HBTS : Hid (bt.size = (t).length) := Lib.hid (by
          have h := HBT.out
          unfold sv at h
          injection h with h
          rw [← h]; rfl)
        have hbts : bt.size ≤ 1048640 := by rw [HBTS.out]; exact HXL.out
        have HCAT : Hid (Value.string (bo ++ bt) = sv (po ++ t)) := Lib.hid (by
          have h := HBT.out
          unfold sv at h ⊢
          injection h with h
          rw [← HSO.out, ← h, ByteArray.mk_append_mk])
        by_cases hbig : 2000 < bo.size + bt.size
        · have HE : Hid (¬ (putIn look cs).length ≤ 2000) := Lib.hid (by have := HTOT.out; rw [HX.out, List.length_append] at this; have := HBO.out; have := HBTS.out; omega)
          have hgt : (2000 : Int) < (bo.size : Int) + (bt.size : Int) := by omega
          clear hbig
          go_wp2_with fail
          go_ret2
          exact ⟨HB1.out, by rw [if_neg HE.out]; rfl⟩
        · have HE : Hid ((putIn look (cs.take (q + 1))).length ≤ 2000) := Lib.hid (by rw [HX.out, List.length_append]; have := HBO.out; have := HBTS.out; omega)
          have hgt : ¬ (2000 : Int) < (bo.size : Int) + (bt.size : Int) := by omega
          clear hbig
          go_wp2_with fail
          exact ⟨⟨q + 1, by go_num, by omega, by rw [HX.out]; exact HCAT.out, HE, Lib.hid (HB1.out)⟩, by simp [intOf]; omega⟩
      | true =>
        simp only [if_true] at HX HXL
        have HNF := Lib.hid (rNames_any (c := c) F w3 (HF.out.below HB1.out) HFN.out hn)
        go_wp2_with fail
        refine HNF.out.mono ?_
        rintro e w4 ⟨A4, c4, rfl, hown4, hb4⟩
        have HP : Hid (Calls Try.prog 34 #[.slice A4 (namesL F).length c4, .string bt] w4 (PlaceIs (namesL F) t w4)) := Lib.hid (by
          have h := place_any (c := c4) (namesL F) t w4 (Rd.of_own hown4) rfl (by rw [names_len, HFN.out]; omega)
          rw [HBT.out] at h
          exact h)
        have HB4 := Lib.hid (below_then HB1.out hb4)
        clear hown4 hb4 HNF
        generalize hnl : (namesL F).length = nl at *
        clear hnl
        go_wp2_with fail
        refine HP.out.mono ?_
        rintro e w5 ⟨r, rfl, rfl, hr⟩
        rcases hr with ⟨rfl, hno⟩ | ⟨j, rfl, hj⟩
        · exact absurd (HIN.out t HMX.out) hno
        · obtain ⟨v, hv⟩ := names_of hj
          have hjn : j < n := by have := (List.getElem?_eq_some_iff.1 hv).1; rw [HFN.out] at this; exact this
          obtain ⟨b2, off2, rfl, d0, d1⟩ := (HF.out.below HB4.out).macs hv
          have HLV : Hid (look t = v) := Lib.hid (HLK.out (t, v) (List.mem_of_getElem? hv))
          rw [HLV.out] at HX HXL
          simp only [] at d0 d1
          obtain ⟨bv, hbv⟩ : ∃ bv, sv v = .string bv := ⟨_, rfl⟩
          rw [hbv] at d1
          have HBV := Lib.hid hbv
          clear hj hv hbv
          have HBTS : Hid (bv.size = (v).length) := Lib.hid (by
            have h := HBV.out
            unfold sv at h
            injection h with h
            rw [← h]; rfl)
          have hbts : bv.size ≤ 1048640 := by rw [HBTS.out]; exact HXL.out
          have HCAT : Hid (Value.string (bo ++ bv) = sv (po ++ v)) := Lib.hid (by
            have h := HBV.out
            unfold sv at h ⊢
            injection h with h
            rw [← HSO.out, ← h, ByteArray.mk_append_mk])
          by_cases hbig : 2000 < bo.size + bv.size
          · have HE : Hid (¬ (putIn look cs).length ≤ 2000) := Lib.hid (by have := HTOT.out; rw [HX.out, List.length_append] at this; have := HBO.out; have := HBTS.out; omega)
            have hgt : (2000 : Int) < (bo.size : Int) + (bv.size : Int) := by omega
            clear hbig
            go_wp2_with fail
            go_ret2
            exact ⟨HB4.out, by rw [if_neg HE.out]; rfl⟩
          · have HE : Hid ((putIn look (cs.take (q + 1))).length ≤ 2000) := Lib.hid (by rw [HX.out, List.length_append]; have := HBO.out; have := HBTS.out; omega)
            have hgt : ¬ (2000 : Int) < (bo.size : Int) + (bv.size : Int) := by omega
            clear hbig
            go_wp2_with fail
            exact ⟨⟨q + 1, by go_num, by omega, by rw [HX.out]; exact HCAT.out, HE, Lib.hid (HB4.out)⟩, by simp [intOf]; omega⟩
    · obtain rfl : q = k := by omega
      have HE : Hid (cs.take q = cs) := Lib.hid (by rw [← HK.out, List.take_length])
      rw [HE.out] at HO
      go_wp2_with fail
      go_ret2
      exact ⟨HBW.out, by rw [if_pos HO.out, HE.out]; rfl⟩
end Go.Proofs.Ytoandhhkmkgmaaa
/- Contracts: slices.Index and slices.Contains at pairs of suffixes. No condition but the model's. -/
namespace Go.Proofs.Ytoandhhkmkgmaaa
open Go.RowKit

def inI (l : List InfT) (p : InfT) : Bool := decide (p ∈ l)
def PlaceI (l : List InfT) (p : InfT) (w : World) (e : Ending) (w' : World) : Prop := Below w.heap.size w w' ∧ ∃ i : Int, e = .returned (.int .i64 i) ∧ ((i = -1 ∧ p ∉ l) ∨ ∃ k : Nat, i = (k : Int) ∧ l[k]? = some p)
set_option maxRecDepth 100000 in
set_option maxHeartbeats 1000000 in
theorem slIndexI_any {A : Option Addr} {n c : Nat} (l : List InfT) (p : InfT) (w : World) (hr : Rd w A (macV l)) (hn : l.length = n) (hb : n ≤ 9223372036854775807) :
    Calls Try.prog 77 #[.slice A n c, .agg #[sv p.1, sv p.2]] w (PlaceI l p w) := by
  obtain ⟨pa, pb⟩ := p
  dsimp only
  have HN := Lib.hid hn
  have HEA := Lib.hid (eq_sv pa)
  have HEB := Lib.hid (eq_sv pb)
  show Calls _ _ #[.slice A n c, .agg #[.string ⟨pa.toArray⟩, .string ⟨pb.toArray⟩]] _ _
  generalize (⟨pa.toArray⟩ : ByteArray) = ba at *
  generalize (⟨pb.toArray⟩ : ByteArray) = bb at *
  have HB0 := Lib.hid (below_new (Below.refl w.heap.size w) (.cells #[.string ba, .string bb] 93))
  have HK := Lib.hid (Blk.new w #[.string ba, .string bb] 93)
  have HR : Hid (Rd (w.alloc (.cells #[.string ba, .string bb] 93)) A (macV l)) := Lib.hid (hr.below HB0.out)
  clear hr hn
  go_enter Try.func77, Try.ntmps77
  go_upto_region 1 with fail
  generalize w.alloc (.cells #[.string ba, .string bb] 93) = w0 at *
  have m0 : w0.cell? ⟨w.heap.size, 0, none⟩ = some (.string ba) := HK.out.cell (j := 0) rfl
  have m1 : w0.cell? ⟨w.heap.size, 1, none⟩ = some (.string bb) := HK.out.cell (j := 1) rfl
  generalize hK0 : w.heap.size = k0 at *
  have HK0 := Lib.hid hK0
  clear hK0
  go_wp2_with fail
  go_loopw [5, 8] (fun _ i wr => ∃ k q : Nat, k ≤ n ∧ i = .int .i64 (k : Int) ∧ wr = w0.drewN q ∧ Hid (∀ (j : Nat) (x : InfT), j < k → l[j]? = some x → x ≠ (pa, pb))) (fun _ i _ => n - (intOf i).toNat)
  case atStart => exact ⟨0, 0, by omega, rfl, rfl, Lib.hid (fun _ _ hj => absurd hj (Nat.not_lt_zero _))⟩
  case round =>
    obtain ⟨k, q, hk, rfl, rfl, hall⟩ := hrel
    by_cases hlt : k < n
    · obtain ⟨x, hx⟩ : ∃ x, l[k]? = some x := ⟨_, List.getElem?_eq_getElem (by rw [HN.out]; exact hlt)⟩
      obtain ⟨b1, o1, rfl, e1, e2⟩ := HR.out.macs hx
      have HX := Lib.hid hx
      obtain ⟨xa, xb⟩ := x
      have e1' : w0.cell? ⟨b1, o1 + k * 2, none⟩ = some (.string ⟨xa.toArray⟩) := e1
      have e2' : w0.cell? ⟨b1, o1 + k * 2 + 1, none⟩ = some (.string ⟨xb.toArray⟩) := e2
      have h1 := HEA.out xa
      have h2 := HEB.out xb
      clear hx e1 e2
      generalize (⟨xa.toArray⟩ : ByteArray) = bx at e1' h1
      generalize (⟨xb.toArray⟩ : ByteArray) = by' at e2' h2
      have j0 : (0 : Int) ≤ (k : Int) := by omega
      have j1 : (k : Int) < (n : Int) := by omega
      by_cases he : pa = xa
      · by_cases he2 : pb = xb
        · have g1 : (ba.toList == bx.toList) = true := by rw [h1]; simp [he]
          have g2 : (bb.toList == by'.toList) = true := by rw [h2]; simp [he2]
          have HS : Hid ((xa, xb) = (pa, pb)) := Lib.hid (by rw [he, he2])
          clear he he2 h1 h2
          go_wp2_with fail
          go_quiet (fail)
          go_wp2_with fail
          go_ret
          exact ⟨by rw [HK0.out]; exact below_drewN (below_drewN HB0.out _) _, (k : Int), rfl, .inr ⟨k, rfl, by rw [HX.out, HS.out]⟩⟩
        · have g1 : (ba.toList == bx.toList) = true := by rw [h1]; simp [he]
          have g2 : (bb.toList == by'.toList) = false := by rw [h2]; simp [he2]
          have HS : Hid ((xa, xb) ≠ (pa, pb)) := Lib.hid (fun e => he2 (by injection e with _ e; exact e.symm))
          clear he he2 h1 h2
          go_wp2_with fail
          go_quiet (fail)
          go_wp2_with fail
          go_roundw
          case rel => exact ⟨k + 1, _, by omega, by go_num, rfl, Lib.hid (fun j y hj hy => by
            rcases Nat.lt_or_ge j k with h | h
            · exact hall.out j y h hy
            · obtain rfl : j = k := by omega
              rw [HX.out] at hy
              injection hy with hy
              rw [← hy]; exact HS.out)⟩
          case measure => simp [intOf]; omega
      · have g1 : (ba.toList == bx.toList) = false := by rw [h1]; simp [he]
        have HS : Hid ((xa, xb) ≠ (pa, pb)) := Lib.hid (fun e => he (by injection e with e _; exact e.symm))
        clear he h1 h2
        go_wp2_with fail
        go_quiet (fail)
        go_wp2_with fail
        go_roundw
        case rel => exact ⟨k + 1, _, by omega, by go_num, rfl, Lib.hid (fun j y hj hy => by
          rcases Nat.lt_or_ge j k with h | h
          · exact hall.out j y h hy
          · obtain rfl : j = k := by omega
            rw [HX.out] at hy
            injection hy with hy
            rw [← hy]; exact HS.out)⟩
        case measure => simp [intOf]; omega
    · go_wp2_with fail
      go_ret
      exact ⟨by rw [HK0.out]; exact below_drewN HB0.out _, -1, rfl, .inl ⟨rfl, fun hm => by
        obtain ⟨j, hj⟩ := List.mem_iff_getElem?.1 hm
        exact hall.out j _ (by have := (List.getElem?_eq_some_iff.1 hj).1; have := HN.out; omega) hj rfl⟩⟩
set_option maxRecDepth 100000 in
set_option maxHeartbeats 1000000 in
theorem slContainsI_any {A : Option Addr} {n c : Nat} (l : List InfT) (p : InfT) (w : World) (hr : Rd w A (macV l)) (hn : l.length = n) (hb : n ≤ 9223372036854775807) :
    Calls Try.prog 53 #[.slice A n c, .agg #[sv p.1, sv p.2]] w fun e w' => e = .returned (.bool (inI l p)) ∧ Below w.heap.size w w' := by
  obtain ⟨ba, hba⟩ : ∃ ba, sv p.1 = .string ba := ⟨_, rfl⟩
  obtain ⟨bb, hbb⟩ : ∃ bb, sv p.2 = .string bb := ⟨_, rfl⟩
  have HB0 := Lib.hid (below_new (Below.refl w.heap.size w) (.cells #[.string ba, .string bb] 93))
  have HI := Lib.hid (slIndexI_any (c := c) l p (w.alloc (.cells #[.string ba, .string bb] 93)) (hr.below HB0.out) hn hb)
  have m0 := (Blk.new w #[.string ba, .string bb] 93).cell (j := 0) rfl
  have m1 := (Blk.new w #[.string ba, .string bb] 93).cell (j := 1) rfl
  rw [hba, hbb] at HI
  rw [hba, hbb]
  clear hr hn hb hba hbb
  go_enter Try.func53, Try.ntmps53
  go_upto_region 1 with fail
  generalize w.alloc (.cells #[.string ba, .string bb] 93) = w0 at *
  go_wp2_with fail
  refine HI.out.mono ?_
  rintro e w1 ⟨hb1, i, rfl, hi⟩
  have HB1 := Lib.hid (below_then HB0.out hb1)
  clear hb1
  rcases hi with ⟨rfl, hno⟩ | ⟨k, rfl, hk⟩
  · have HE : Hid (false = inI l p) := Lib.hid (by unfold inI; simp [hno])
    clear hno
    go_wp2_with fail
    go_ret
    exact ⟨ret_bool HE.out, HB1.out⟩
  · have HE : Hid (true = inI l p) := Lib.hid (by unfold inI; simp [List.mem_of_getElem? hk])
    clear hk
    have k0 : (0 : Int) ≤ (k : Int) := by omega
    go_wp2_with fail
    go_ret
    exact ⟨ret_bool HE.out, HB1.out⟩
end Go.Proofs.Ytoandhhkmkgmaaa
