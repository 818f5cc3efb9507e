/- Contracts that the law's proof leans on, and plain lemmas to them, merged. No condition beyond each contract's own hypotheses. -/
import Derived.Test.YtoandhhkmkgmaaaGreatDoorMg0
import Derived.Deep.RegionLaw
import Derived.Deep.RegionLawGrows
import Derived.WalkKit
import Derived.IntWalk
import Derived.Test.YtoandhhkmkgmaaaGreatDoorMg2
import Derived.Test.YtoandhhkmkgmaaaGreatDoorMg4
import Derived.Deep.Quiet
import Derived.WalkSpells
import Derived.WalkLawsBesides
import Derived.BigQuiet
import Derived.Deep.QuietTactic
namespace Go.Proofs.YtoandhhkmkgmaaaGreatDoor
open Go.RowKit

theorem run_append_zero' {P : Program} (w : World) (t ty e : TypeId) (i : TypeInfo) (ht : P.underlying t = some (.slice e)) (hi : P.info? e = some i) (ad : Addr) (n c : Nat) (a2 : Option Addr) (c2 : Nat) (hc : n ≤ c) :
 (Builtin.append_ #[t, t] ty #[.slice (some ad) n c, .slice a2 0 c2]).run P w = .ok (.slice (some ad) n c) w := by
 cases a2 with
 | none => simp [Builtin.append_, run_underlying ht, sizeOf, typeInfo, hi, Builtin.lenOf, Builtin.firstCells, hc, storeCells]
 | some b => simp [Builtin.append_, run_underlying ht, sizeOf, typeInfo, hi, Builtin.lenOf, Builtin.firstCells, hc, storeCells, loadCells, loadCellsFrom]
theorem step_append_none {P : Program} {ops : Array Oper} {o : Oper} {a : Act} {w : World} {K : Act → World → Prop} {Q : Exit → Act → World → Prop} {E : Prop}
 (hg : o.guard = none) (s x : Operand) (t : TypeId) (hop : o.op = Op.call { callee := Callee.builtin Builtin.append, args := #[s, x], argTypes := #[t, t] })
 (e : TypeId) (i : TypeInfo) (h1 : P.underlying t = some (.slice e)) (h2 : P.info? e = some i) (ad : Addr) (n cap : Nat) (hs : a.eval s = .slice (some ad) n cap) (hc : n ≤ cap)
 (a2 : Option Addr) (c2 : Nat) (hx : a.eval x = .slice a2 0 c2) (hK : K (a.put o.dst (.slice (some ad) n cap)) w) :
 if Region.wanted o (yielded ops a.tmps) = true then Oper.wp P o a w K Q else E := by
 have hw : Region.wanted o (yielded ops a.tmps) = true := by simp [Region.wanted, hg]
 rw [if_pos hw]
 have hrun := run_append_zero' (P := P) w t o.type e i h1 h2 ad n cap a2 c2 hc
 unfold Oper.wp
 simp [execOp, hop, resolve, invoke, builtin, hs, hx, hrun, Result.andThen]
 exact hK
theorem addr_plus (b off i : Nat) : (⟨b, off, none⟩ : Addr).add i = ⟨b, off + i, none⟩ := by
 unfold Addr.add
 split
 ·rename_i h; subst h; rfl
 ·rfl
theorem rd_head {α : Type} {f : α → Value} {w : World} {b off j : Nat} {l : List α} (h : Rd w (some ⟨b, off, none⟩) (l.map f)) :
 ∀ a : Addr, some (⟨b, off, none⟩ : Addr) = some a → ∀ i u, ((l.take j).map f)[i]? = some u → w.cell? (a.add i) = some u := by
 intro a ha i u hu
 injection ha with ha
 subst ha
 rw [addr_plus]
 have hi : ((l.map f))[i]? = some u := by
  rw [List.map_take, List.getElem?_take] at hu
  split at hu
  ·exact hu
  ·cases hu
 obtain ⟨b', off', hA, _, hc⟩ := h (by have := (List.getElem?_eq_some_iff.1 hi).1; omega)
 injection hA with hA
 injection hA with h1 h2 _
 subst h1 h2
 exact hc i u hi
theorem rd_tail {α : Type} {f : α → Value} {w : World} {b off j : Nat} {l : List α} (h : Rd w (some ⟨b, off, none⟩) (l.map f)) :
 ∀ i u, ((l.drop j).map f)[i]? = some u → w.cell? ((⟨b, off + j, none⟩ : Addr).add i) = some u := by
 intro i u hu
 rw [addr_plus, Nat.add_assoc]
 have hi : ((l.map f))[j + i]? = some u := by
  rw [List.map_drop, List.getElem?_drop] at hu
  exact hu
 obtain ⟨b', off', hA, _, hc⟩ := h (by have := (List.getElem?_eq_some_iff.1 hi).1; omega)
 injection hA with hA
 injection hA with h1 h2 _
 subst h1 h2
 exact hc (j + i) u hi
end Go.Proofs.YtoandhhkmkgmaaaGreatDoor
namespace Go.Proofs.YtoandhhkmkgmaaaGreatDoor
open Go.RowKit

theorem elStr : ElT Tryz.prog 22 9 (.string ⟨#[]⟩) 16 := ElT.mk' Tryz.underlying22 (by kernel_rfl) rfl
theorem sv_one (l : List (List UInt8)) : ∀ u ∈ l.map sv, u.oneCell' = true := by
 intro u hu
 obtain ⟨x, _, rfl⟩ := List.mem_map.1 hu
 rfl
theorem bytesLess_lt : ∀ (x y : List UInt8), Op.bytesLess x y = decide (x < y)
 | [], [] => by simp [Op.bytesLess]
 | [], _ :: _ => by simp [Op.bytesLess]
 | _ :: _, [] => by simp [Op.bytesLess]
 | a :: x, b :: y => by
   rw [Op.bytesLess, bytesLess_lt x y, Bool.eq_iff_iff]
   simp [List.cons_lt_cons_iff]
theorem less_sv (x y : List UInt8) : Op.bytesLess (⟨x.toArray⟩ : ByteArray).toList (⟨y.toArray⟩ : ByteArray).toList = decide (x < y) := by
 rw [Lib.toList_data, Lib.toList_data]
 exact bytesLess_lt x y
theorem lowS_eq {out : List (List UInt8)} {s : List UInt8} {k : Nat} (h1 : ∀ (j : Nat) (x : List UInt8), j < k → out[j]? = some x → x < s) (hk : k ≤ out.length)
 (h2 : k = out.length ∨ ∃ x, out[k]? = some x ∧ ¬ x < s) : lowS out s = k := by
 induction out generalizing k with
 | nil =>
   simp at hk
   subst hk; rfl
 | cons y out ih =>
   unfold lowS
   cases k with
   | zero =>
     rcases h2 with h2 | ⟨x, hx, hn⟩
     ·simp at h2
     ·simp at hx
      subst hx
      simp [hn]
   | succ k =>
     have hy := h1 0 y (by omega) rfl
     have := ih (k := k) (fun j x hj hx => h1 (j + 1) x (by omega) hx) (by simp at hk; exact hk) (by
      rcases h2 with h2 | ⟨x, hx, hn⟩
      ·left; simp at h2; exact h2
      ·right; exact ⟨x, by simpa using hx, hn⟩)
     unfold lowS at this
     simp [hy, this]
theorem own_more {w : World} {B e n c : Nat} {A : Option Addr} {xs : List Value} (h : w.ownsRow B e 1 (.slice A n c) n xs) (hn : 0 < n) : ∃ g, A = some ⟨g, 0, none⟩ ∧ n ≤ c := by
 rcases h.2 with ⟨_, h0⟩ | ⟨g, cap, cur, hv, _, _, h1, _⟩
 ·omega
 ·injection hv with hA _ hc
  exact ⟨g, hA, by omega⟩
theorem lit_cell {w : World} {v : Value} {e : TypeId} : ∀ (j : Nat) (u : Value), ([v] : List Value)[j]? = some u → (w.drew.alloc (.cells #[v] e)).cell? ((⟨w.heap.size, 0, none⟩ : Addr).add j) = some u := by
 intro j u hj
 match j, hj with
 | 0, hj =>
   simp at hj
   subst hj
   unfold Addr.add
   rw [if_pos rfl]
   show (w.drew.alloc (.cells #[v] e)).cell? ⟨w.drew.heap.size, 0, none⟩ = some v
   rw [World.cell?_alloc_at _ _ _ _ rfl]
   rfl
theorem own_cells {w : World} {B e g n c : Nat} {xs : List Value} (h : w.ownsRow B e 1 (.slice (some ⟨g, 0, none⟩) n c) n xs) : ∀ (j : Nat) (u : Value), xs[j]? = some u → w.cell? ((⟨g, 0, none⟩ : Addr).add j) = some u := fun j u hj => h.cells (g := g) rfl j u hj
theorem drew_alloc_below (w : World) (o : Obj) : Below w.heap.size w (w.drew.alloc o) := Below.alloc (a := w) (w := w.drew) ⟨rfl, rfl, rfl, Nat.le_refl _, fun _ _ => rfl⟩ (Nat.le_refl _) o
def NewAt (w : World) (A : Option Addr) : Prop := ∀ g o, A = some ⟨g, o, none⟩ → w.heap.size ≤ g
theorem newAt_of {w : World} {g7 b : Nat} (h : b ≤ g7) (hb : w.heap.size ≤ b) : NewAt w (some ⟨g7, 0, none⟩) := fun g o e => by
 injection e with e
 injection e with e _ _
 omega
theorem newAt_none (w : World) : NewAt w none := fun _ _ e => by cases e
def RisRel (l : List (List UInt8)) (w : World) (k : Nat) (v : Value) (wr : World) : Prop :=
 ∃ (A : Option Addr) (m c : Nat) (out : List (List UInt8)), v = .slice A m c ∧ m ≤ k ∧ m ≤ c ∧ (A = none → m = 0 ∧ c = 0) ∧ Hid (out.length = m) ∧ Hid (Rd wr A (out.map sv)) ∧ Hid (out = rising (l.take k)) ∧ Hid (Below w.heap.size w wr) ∧ (m = 0 → A = none) ∧ Hid (NewAt w A)
def RisPostN (l : List (List UInt8)) (w : World) (e : Ending) (w' : World) : Prop :=
 ∃ (A : Option Addr) (c : Nat), e = .returned (.slice A (rising l).length c) ∧ Rd w' A ((rising l).map sv) ∧ Below w.heap.size w w' ∧ NewAt w A
def RisPost (l : List (List UInt8)) (w : World) (e : Ending) (w' : World) : Prop :=
 ∃ (A : Option Addr) (c : Nat), e = .returned (.slice A (rising l).length c) ∧ Rd w' A ((rising l).map sv) ∧ Below w.heap.size w w'
set_option maxRecDepth 100000 in
set_option maxHeartbeats 2000000 in
theorem rRisingN_any {A : Option Addr} {n c : Nat} (l : List (List UInt8)) (w : World) (hr : Rd w A (l.map sv)) (hn : l.length = n) (hb : n ≤ 4194304) :
 Calls Tryz.prog 76 #[.slice A n c] w (RisPostN l w) := by
 have HR := Lib.hid hr
 have HN := Lib.hid hn
 clear hr hn
 go_enter Tryz.func76, Tryz.ntmps76
 go_wp2_with fail
 go_loopw [3, 5, 6, 9] (fun v _ _ i wr => ∃ k : Nat, k ≤ n ∧ i = .int .i64 (k : Int) ∧ RisRel l w k v wr) (fun _ _ _ i _ => n - (intOf i).toNat)
 case atStart => exact ⟨0, by omega, rfl, none, 0, 0, [], rfl, by omega, by omega, fun _ => ⟨rfl, rfl⟩, Lib.hid rfl, Lib.hid (Rd.nil_ _ _), Lib.hid rfl, Lib.hid (Below.refl _ _), fun _ => rfl, Lib.hid (newAt_none w)⟩
 case round =>
  obtain ⟨k, hk, rfl, A2, m, c2, out, rfl, hm, hmc, hnone, hol, hrd, hout, hbw, hm0, HNW⟩ := hrel
  by_cases hlt : k < n
  ·obtain ⟨s, hs⟩ : ∃ s, l[k]? = some s := ⟨_, List.getElem?_eq_getElem (by rw [HN.out]; exact hlt)⟩
   obtain ⟨b, off, rfl, hc⟩ := (HR.out.below hbw.out).scell hs
   have HT : Hid (rising (l.take (k + 1)) = putR out s) := Lib.hid (by rw [List.take_add_one, hs]; show rising (l.take k ++ [s]) = _; rw [rising_snoc, hout.out])
   obtain ⟨bs, hbs⟩ : ∃ bs : ByteArray, (⟨s.toArray⟩ : ByteArray) = bs := ⟨_, rfl⟩
   rw [hbs] at hc
   have HP := Lib.hid (place_any (c := c2) out s wr hrd.out hol.out (by omega))
   unfold sv at HP
   rw [hbs] at HP
   have HBS := Lib.hid hbs
   clear hbs
   have HNONE := Lib.hid hnone
   have HM0 := Lib.hid hm0
   clear hs hnone hm0
   go_wp2_with fail
   refine HP.out.mono ?_
   rintro e w' ⟨i, rfl, rfl, hi⟩
   rcases hi with ⟨rfl, hni⟩ | ⟨q, rfl, hq⟩
   ·have HNI := Lib.hid hni
    have HPUT : Hid (putR out s = out.take (lowS out s) ++ s :: out.drop (lowS out s)) := Lib.hid (by unfold putR; rw [if_neg hni])
    clear hni hc
    go_wp2_with fail
    go_loop [6] (fun x => ∃ q : Nat, q ≤ m ∧ x = .int .i64 (q : Int) ∧ Hid (∀ (j : Nat) (x : List UInt8), j < q → out[j]? = some x → x < s)) (fun x => m - (intOf x).toNat)
    case atStart => exact ⟨0, by omega, rfl, Lib.hid (fun _ _ hj => absurd hj (Nat.not_lt_zero _))⟩
    case round =>
     obtain ⟨q, hq, rfl, hls⟩ := hrel
     by_cases hqm : q < m
     ·obtain ⟨y, hy⟩ : ∃ y, out[q]? = some y := ⟨_, List.getElem?_eq_getElem (by rw [hol.out]; exact hqm)⟩
      obtain ⟨b2, o2, rfl, hcq⟩ := hrd.out.scell hy
      have HLT := Lib.hid (less_sv y s)
      rw [HBS.out] at HLT
      have HY := Lib.hid hy
      generalize (⟨y.toArray⟩ : ByteArray) = bY at hcq HLT
      clear hy
      by_cases hys : y < s
      ·have h1 : Op.bytesLess bY.toList bs.toList = true := by rw [HLT.out]; simp [hys]
       have HYS := Lib.hid hys
       clear hys
       go_wp2_with fail
       go_round
       case rel => exact ⟨q + 1, by omega, by go_num, Lib.hid (fun j x hj hx => by
        rcases Nat.lt_or_ge j q with h | h
        ·exact hls.out j x h hx
        ·obtain rfl : j = q := by omega
         rw [HY.out] at hx
         injection hx with hx
         rw [← hx]; exact HYS.out)⟩
       case measure => simp [intOf]; omega
      ·have h1 : Op.bytesLess bY.toList bs.toList = false := by rw [HLT.out]; simp [hys]
       have HLOW : Hid (lowS out s = q) := Lib.hid (lowS_eq hls.out (by rw [hol.out]; exact hq) (.inr ⟨y, HY.out, hys⟩))
       clear hys hls
       go_wp2_with fail
       obtain ⟨ht, i0, hi, hz, hs1, hby, hzs⟩ := elStr
       have hrd0 : Rd (wr.drew.alloc (.cells #[.string bs] 9)) (some ⟨b2, o2, none⟩) (out.map sv) := hrd.out.below (drew_alloc_below wr _)
       have hdw := drew_alloc_below wr (.cells #[.string bs] 9)
       have HSVS : Hid (Value.string bs = sv s) := Lib.hid (by rw [← HBS.out]; rfl)
       have q0 : (0 : Int) ≤ (q : Int) := by omega
       have q2 : q ≤ c2 := by omega
       have q1 : (q : Int) ≤ (m : Int) := by omega
       have hcf : (c2 = q) = False := by simp; omega
       have H1 := Lib.hid (rd_head (j := q) hrd0)
       have H2 := Lib.hid (lit_cell (w := wr) (v := .string bs) (e := 9))
       have H3 : Hid (((out.take q).map sv).length = q * 1) := Lib.hid (by rw [List.length_map, List.length_take, hol.out]; omega)
       have H4 := Lib.hid (rd_tail (j := q) hrd0)
       have H5 : Hid (((out.drop q).map sv).length = (m - q) * 1) := Lib.hid (by rw [List.length_map, List.length_drop, hol.out]; omega)
       have H6 := Lib.hid (sv_one (out.drop q))
       have HS6 : Hid ((([.string bs] : List Value) ++ (out.drop q).map sv).length = (1 + (m - q)) * 1) := Lib.hid (by rw [List.length_append, H5.out]; simp)
       have HS7 : Hid (∀ u ∈ ([.string bs] : List Value) ++ (out.drop q).map sv, u.oneCell' = true) := Lib.hid (fun u hu => (List.mem_append.1 hu).elim (fun h => by rw [List.mem_singleton] at h; rw [h]; rfl) (fun h => H6.out u h))
       have HDW := Lib.hid hdw
       have HRD := Lib.hid hrd0
       have hmq : 0 < m - q := by omega
       clear hrd0 hdw
       go_region_law (first
        | (refine step_append_grows rfl (.tmp 36) (.tmp 39) 22 rfl 9 i0 (.string ⟨#[]⟩) 1 16 ht hi hz hs1 hby hzs (by decide) (some ⟨wr.heap.size, 0, none⟩) 1 1 [.string bs] (by simp [Act.eval]) (by intro h; cases h) rfl (by intro a ha; injection ha with ha; rw [← ha]; exact H2.out) ⟨b2, o2 + q, none⟩ (m - q) (c2 - q) ((out.drop q).map sv) (by simp [Act.eval]) H5.out H4.out H6.out (by omega) (by unfold maxLen; omega) (by omega) ?_; intro v6 w6 hown6 hg6; obtain ⟨A6, c6, rfl⟩ := own_form hown6; obtain ⟨g6, rfl, hcap6⟩ := own_more hown6 (by omega); have HG6 := Lib.hid hg6; have HO6 := Lib.hid (own_cells hown6); have HB6 := Lib.hid ((Below.refl _ _).grown hg6 (Nat.le_refl _) (fun k h => by cases h)); have HH6 := Lib.hid (rd_head (j := q) (HRD.out.below HB6.out)); clear hown6 hg6)
        | (refine step_append_grows rfl (.tmp 34) (.tmp 40) 22 rfl 9 i0 (.string ⟨#[]⟩) 1 16 ht hi hz hs1 hby hzs (by decide) (some ⟨b2, o2, none⟩) q q ((out.take q).map sv) (by simp [Act.eval]) (by intro h; cases h) H3.out HH6.out ⟨g6, 0, none⟩ (1 + (m - q)) c6 (([.string bs] : List Value) ++ (out.drop q).map sv) (by simp [Act.eval]) HS6.out HO6.out HS7.out (by omega) (by unfold maxLen; omega) (by omega) ?_; intro v7 w7 hown7 hg7; obtain ⟨A7, c7, rfl⟩ := own_form hown7))
       have hb7 : Below wr.heap.size wr w7 := HDW.out.trans ((HB6.out.trans ((Below.refl _ _).grown hg7 HB6.out.size (fun k h => by cases h))).mono (by simp))
       go_simp
       clear ht hi hz hs1 hby hzs
       have HB7 := Lib.hid (hbw.out.trans (hb7.mono hbw.out.size))
       have HLN : Hid ((out.take q ++ s :: out.drop q).length = (q + (1 + (m - q)))) := Lib.hid (by have := hol.out; simp only [List.length_append, List.length_take, List.length_cons, List.length_drop]; omega)
       have HR7 : Hid (Rd w7 A7 ((out.take q ++ s :: out.drop q).map sv)) := Lib.hid (by
        have := Rd.of_own hown7
        rw [HSVS.out, show (out.take q).map sv ++ ([sv s] ++ (out.drop q).map sv) = (out.take q ++ s :: out.drop q).map sv by rw [List.map_append, List.map_cons]; rfl] at this
        exact this)
       obtain ⟨g7, rfl, hcap7⟩ := own_more hown7 (by omega)
       have HN7 : Hid (NewAt w (some ⟨g7, 0, none⟩)) := Lib.hid (newAt_of (hown7.lt g7 rfl).1 (Nat.le_trans hbw.out.size (Nat.le_trans HDW.out.size HB6.out.size)))
       have hLk : (q + (1 + (m - q))) ≤ k + 1 := by omega
       have HPZ : Hid (out.take q ++ s :: out.drop q = rising (l.take (k + 1))) := Lib.hid (by rw [HT.out, HPUT.out, HLOW.out])
       clear hown7 hb7
       generalize out.take q ++ s :: out.drop q = out7 at *
       obtain ⟨L7, hL7⟩ : ∃ L7, L7 = (q + (1 + (m - q))) := ⟨_, rfl⟩
       have hl0 : 0 < L7 := by omega
       rw [← hL7] at HLN hcap7 hLk ⊢
       clear hL7
       go_wp2_with fail
       go_roundw
       case rel => exact ⟨k + 1, by omega, by go_num, some ⟨g7, 0, none⟩, L7, c7, out7, rfl, hLk, hcap7, (fun h => by cases h), HLN, HR7, HPZ, HB7, (fun h => by omega), HN7⟩
       case measure => simp [intOf]; omega
     ·obtain rfl : q = m := by omega
      have HLOW : Hid (lowS out s = q) := Lib.hid (lowS_eq hls.out (by rw [hol.out]; exact Nat.le_refl _) (.inl hol.out.symm))
      clear hls
      by_cases hz0 : q = 0
      ·skip
       have hA2 : A2 = none := HM0.out hz0
       subst hA2
       obtain ⟨_, hc2⟩ := HNONE.out rfl
       subst hc2
       subst hz0
       have hl0 : out = [] := List.eq_nil_of_length_eq_zero hol.out
       go_wp2_with fail
       obtain ⟨ht, i0, hi, hz, hs1, hby, hzs⟩ := elStr
       have HSVS : Hid (Value.string bs = sv s) := Lib.hid (by rw [← HBS.out]; rfl)
       have H2 := Lib.hid (lit_cell (w := wr) (v := .string bs) (e := 9))
       have HDW := Lib.hid (drew_alloc_below wr (.cells #[.string bs] 9))
       have HL0 := Lib.hid hl0
       clear hl0
       go_region_law (first
        | (refine step_append_none rfl (.tmp 36) (.tmp 39) 22 rfl 9 i0 ht hi ⟨wr.heap.size, 0, none⟩ 1 1 (by simp [Act.eval]) (Nat.le_refl _) none 0 (by simp [Act.eval]) ?_)
        | (refine step_append_grows rfl (.tmp 34) (.tmp 40) 22 rfl 9 i0 (.string ⟨#[]⟩) 1 16 ht hi hz hs1 hby hzs (by decide) none 0 0 [] (by simp [Act.eval]) (fun _ => ⟨rfl, rfl⟩) rfl (by intro b h; cases h) ⟨wr.heap.size, 0, none⟩ 1 1 [.string bs] (by simp [Act.eval]) rfl H2.out (by intro u hu; rw [List.mem_singleton] at hu; rw [hu]; rfl) (by omega) (by unfold maxLen; omega) (by omega) ?_; intro v7 w7 hown7 hg7; obtain ⟨A7, c7, rfl⟩ := own_form hown7))
       have hb7 : Below wr.heap.size wr w7 := HDW.out.trans ((Below.refl _ _).grown hg7 (by simp) (fun k h => by cases h))
       go_simp
       clear ht hi hz hs1 hby hzs
       have HB7 := Lib.hid (hbw.out.trans (hb7.mono hbw.out.size))
       have HLN : Hid ((out.take 0 ++ s :: out.drop 0).length = 1) := Lib.hid (by have := hol.out; simp only [List.length_append, List.length_take, List.length_cons, List.length_drop]; omega)
       have HR7 : Hid (Rd w7 A7 ((out.take 0 ++ s :: out.drop 0).map sv)) := Lib.hid (by
        have := Rd.of_own hown7
        rw [HSVS.out, show ([] : List Value) ++ [sv s] = (out.take 0 ++ s :: out.drop 0).map sv by rw [HL0.out]; rfl] at this
        exact this)
       obtain ⟨g7, rfl, hcap7⟩ := own_more hown7 (by omega)
       have HN7 : Hid (NewAt w (some ⟨g7, 0, none⟩)) := Lib.hid (newAt_of (hown7.lt g7 rfl).1 (Nat.le_trans hbw.out.size HDW.out.size))
       have hLk : 1 ≤ k + 1 := by omega
       have HPZ : Hid (out.take 0 ++ s :: out.drop 0 = rising (l.take (k + 1))) := Lib.hid (by rw [HT.out, HPUT.out, HLOW.out])
       clear hown7 hb7
       generalize out.take 0 ++ s :: out.drop 0 = out7 at *
       go_wp2_with fail
       go_roundw
       case rel => exact ⟨k + 1, by omega, by go_num, some ⟨g7, 0, none⟩, 1, c7, out7, rfl, hLk, hcap7, (fun h => by cases h), HLN, HR7, HPZ, HB7, (fun h => by omega), HN7⟩
       case measure => simp [intOf]; omega
      ·obtain ⟨b2, o2, rfl, _, _⟩ := hrd.out (by rw [List.length_map, hol.out]; omega)
       go_wp2_with fail
       obtain ⟨ht, i0, hi, hz, hs1, hby, hzs⟩ := elStr
       have hrd0 : Rd (wr.drew.alloc (.cells #[.string bs] 9)) (some ⟨b2, o2, none⟩) (out.map sv) := hrd.out.below (drew_alloc_below wr _)
       have hdw := drew_alloc_below wr (.cells #[.string bs] 9)
       have HSVS : Hid (Value.string bs = sv s) := Lib.hid (by rw [← HBS.out]; rfl)
       have q0 : (0 : Int) ≤ (q : Int) := by omega
       have q2 : q ≤ c2 := by omega
       have H1 := Lib.hid (rd_head (j := q) hrd0)
       have H2 := Lib.hid (lit_cell (w := wr) (v := .string bs) (e := 9))
       have H3 : Hid (((out.take q).map sv).length = q * 1) := Lib.hid (by rw [List.length_map, List.length_take, hol.out]; omega)
       have HDW := Lib.hid hdw
       clear hrd0 hdw
       go_region_law (first
        | (refine step_append_none rfl (.tmp 36) (.tmp 39) 22 rfl 9 i0 ht hi ⟨wr.heap.size, 0, none⟩ 1 1 (by simp [Act.eval]) (Nat.le_refl _) (if c2 = q then some ⟨b2, o2, none⟩ else some ⟨b2, o2 + q, none⟩) (c2 - q) (by simp [Act.eval]) ?_)
        | (refine step_append_grows rfl (.tmp 34) (.tmp 40) 22 rfl 9 i0 (.string ⟨#[]⟩) 1 16 ht hi hz hs1 hby hzs (by decide) (some ⟨b2, o2, none⟩) q q ((out.take q).map sv) (by simp [Act.eval]) (by intro h; cases h) H3.out H1.out ⟨wr.heap.size, 0, none⟩ 1 1 [.string bs] (by simp [Act.eval]) rfl H2.out (by intro u hu; rw [List.mem_singleton] at hu; rw [hu]; rfl) (by omega) (by unfold maxLen; omega) (by omega) ?_; intro v7 w7 hown7 hg7; obtain ⟨A7, c7, rfl⟩ := own_form hown7))
       have hb7 : Below wr.heap.size wr w7 := HDW.out.trans ((Below.refl _ _).grown hg7 (by simp) (fun k h => by cases h))
       go_simp
       clear ht hi hz hs1 hby hzs
       have HB7 := Lib.hid (hbw.out.trans (hb7.mono hbw.out.size))
       have HLN : Hid ((out.take q ++ s :: out.drop q).length = (q + 1)) := Lib.hid (by have := hol.out; simp only [List.length_append, List.length_take, List.length_cons, List.length_drop]; omega)
       have HR7 : Hid (Rd w7 A7 ((out.take q ++ s :: out.drop q).map sv)) := Lib.hid (by
        have := Rd.of_own hown7
        rw [HSVS.out, show (out.take q).map sv ++ [sv s] = (out.take q ++ s :: out.drop q).map sv by rw [List.map_append, List.map_cons, List.drop_eq_nil_of_le (by rw [hol.out]; exact Nat.le_refl _)]; rfl] at this
        exact this)
       obtain ⟨g7, rfl, hcap7⟩ := own_more hown7 (by omega)
       have HN7 : Hid (NewAt w (some ⟨g7, 0, none⟩)) := Lib.hid (newAt_of (hown7.lt g7 rfl).1 (Nat.le_trans hbw.out.size HDW.out.size))
       have hLk : (q + 1) ≤ k + 1 := by omega
       have HPZ : Hid (out.take q ++ s :: out.drop q = rising (l.take (k + 1))) := Lib.hid (by rw [HT.out, HPUT.out, HLOW.out])
       clear hown7 hb7
       generalize out.take q ++ s :: out.drop q = out7 at *
       obtain ⟨L7, hL7⟩ : ∃ L7, L7 = (q + 1) := ⟨_, rfl⟩
       have hl0 : 0 < L7 := by omega
       rw [← hL7] at HLN hcap7 hLk ⊢
       clear hL7
       go_wp2_with fail
       go_roundw
       case rel => exact ⟨k + 1, by omega, by go_num, some ⟨g7, 0, none⟩, L7, c7, out7, rfl, hLk, hcap7, (fun h => by cases h), HLN, HR7, HPZ, HB7, (fun h => by omega), HN7⟩
       case measure => simp [intOf]; omega
   ·have HPUT : Hid (putR out s = out) := Lib.hid (by unfold putR; rw [if_pos (List.mem_of_getElem? hq)])
    clear hq hc
    go_wp2_with fail
    go_roundw
    case rel => exact ⟨k + 1, by omega, by go_num, A2, m, c2, out, rfl, by omega, hmc, HNONE.out, hol, hrd, Lib.hid (by rw [HT.out, HPUT.out]), hbw, HM0.out, HNW⟩
    case measure => simp [intOf]; omega
  ·obtain rfl : k = n := by omega
   have HE : Hid (out = rising l) := Lib.hid (by rw [hout.out, List.take_of_length_le (by rw [HN.out]; exact Nat.le_refl _)])
   have HML : Hid (m = (rising l).length) := Lib.hid (by rw [← HE.out]; exact hol.out.symm)
   have HRD : Hid (Rd wr A2 ((rising l).map sv)) := Lib.hid (by rw [← HE.out]; exact hrd.out)
   clear hout hrd hol hnone hm0
   go_wp2_with fail
   go_ret
   exact ⟨A2, c2, by rw [← HML.out]; rfl, HRD.out, hbw.out, HNW.out⟩
theorem rRising_any {A : Option Addr} {n c : Nat} (l : List (List UInt8)) (w : World) (hr : Rd w A (l.map sv)) (hn : l.length = n) (hb : n ≤ 4194304) :
 Calls Tryz.prog 76 #[.slice A n c] w (RisPost l w) :=
 (rRisingN_any l w hr hn hb).mono fun _ _ ⟨A, c, h1, h2, h3, _⟩ => ⟨A, c, h1, h2, h3⟩
end Go.Proofs.YtoandhhkmkgmaaaGreatDoor
namespace Go.Proofs.YtoandhhkmkgmaaaGreatDoor
open Go.RowKit

theorem cIsNaN_any (x : List UInt8) (w : World) : Calls Tryz.prog 195 #[sv x] w fun e w' => e = .returned (.bool false) ∧ w = w' := by
 unfold sv
 generalize (⟨x.toArray⟩ : ByteArray) = b
 go_enter Tryz.func195, Tryz.ntmps195
 go_wp2_with fail
 go_ret
 exact ⟨by simp, rfl⟩
theorem sIsNaN_any (x : List UInt8) (w : World) : Calls Tryz.prog 178 #[sv x] w fun e w' => e = .returned (.bool false) ∧ w = w' := by
 unfold sv
 generalize (⟨x.toArray⟩ : ByteArray) = b
 go_enter Tryz.func178, Tryz.ntmps178
 go_wp2_with fail
 go_ret
 exact ⟨by simp, rfl⟩
def ltS (x y : List UInt8) : Bool := decide (x < y)
theorem cLess_any (x y : List UInt8) (w : World) : Calls Tryz.prog 177 #[sv x, sv y] w fun e w' => e = .returned (.bool (ltS x y)) ∧ w = w' := by
 have H1 := Lib.hid (cIsNaN_any x)
 have hl := less_sv x y
 unfold sv at *
 generalize (⟨x.toArray⟩ : ByteArray) = b at *
 generalize (⟨y.toArray⟩ : ByteArray) = d at *
 have HE : Hid (Op.bytesLess b.toList d.toList = ltS x y) := Lib.hid hl
 clear hl
 go_enter Tryz.func177, Tryz.ntmps177
 go_wp2_with fail
 refine (H1.out _).mono ?_
 rintro e w' ⟨rfl, rfl⟩
 go_wp2_with fail
 go_ret
 exact ⟨ret_bool HE.out, rfl⟩

def hasS (l : List (List UInt8)) (x : List UInt8) : Bool := decide (x ∈ l)
def SrPost (l : List (List UInt8)) (x : List UInt8) (w : World) (e : Ending) (w' : World) : Prop :=
 ∃ k : Nat, k ≤ l.length ∧ e = .returned (.tuple #[.int .i64 (k : Int), .bool (hasS l x)]) ∧ (x ∈ l → l[k]? = some x) ∧ w = w'
theorem sr_none {l : List (List UInt8)} {x : List UInt8} (h : ∀ (t : Nat) (y : List UInt8), t < l.length → l[t]? = some y → y < x) : hasS l x = false := by
 unfold hasS
 rw [decide_eq_false_iff_not]
 intro hx
 obtain ⟨t, ht⟩ := List.mem_iff_getElem?.1 hx
 exact slt_irrefl _ (h t x (List.getElem?_eq_some_iff.1 ht).1 ht)
theorem sr_some {l : List (List UInt8)} {x y : List UInt8} {k : Nat} (hu : Up l) (hk : l[k]? = some y) (h1 : ∀ (t : Nat) (z : List UInt8), t < k → l[t]? = some z → z < x) (h2 : ¬ y < x) : hasS l x = decide (y = x) := by
 unfold hasS
 rw [Bool.eq_iff_iff]
 simp only [decide_eq_true_eq]
 constructor
 ·intro hx
  obtain ⟨t, ht⟩ := List.mem_iff_getElem?.1 hx
  rcases Nat.lt_trichotomy t k with h | h | h
  ·exact absurd (h1 t x h ht) (slt_irrefl _)
  ·subst h; rw [hk] at ht; injection ht
  ·obtain ⟨a1, e1⟩ := List.getElem?_eq_some_iff.1 hk
   obtain ⟨a2, e2⟩ := List.getElem?_eq_some_iff.1 ht
   have := (List.pairwise_iff_getElem.1 hu) k t a1 a2 h
   rw [e1, e2] at this
   exact absurd this h2
 ·rintro rfl
  exact List.mem_of_getElem? hk

set_option maxHeartbeats 4000000 in
theorem search_any {A : Option Addr} {n c : Nat} (l : List (List UInt8)) (x : List UInt8) (w : World) (hr : Rd w A (l.map sv)) (hn : l.length = n) (hb : n ≤ 1099511627776) (hu : Up l) :
 Calls Tryz.prog 129 #[.slice A n c, sv x] w (SrPost l x w) := by
 have HR := Lib.hid hr
 have HN := Lib.hid hn
 have HU := Lib.hid hu
 have HL := Lib.hid (fun y => cLess_any y x w)
 have HNA := Lib.hid (fun y => sIsNaN_any y w)
 clear hr hn hu
 obtain ⟨bx, ebx⟩ : ∃ bx : ByteArray, bx = ⟨x.toArray⟩ := ⟨_, rfl⟩
 have HBX := Lib.hid ebx
 have hsv : sv x = .string bx := by rw [ebx]; rfl
 rw [hsv]
 rw [hsv] at HL
 clear hsv ebx
 go_enter Tryz.func129, Tryz.ntmps129
 go_wp2_with fail
 go_loop [7, 8, 9] (fun i j _ => ∃ p q : Nat, p ≤ q ∧ q ≤ n ∧ i = .int .i64 (p : Int) ∧ j = .int .i64 (q : Int) ∧ Hid (∀ (t : Nat) (y : List UInt8), t < p → l[t]? = some y → y < x) ∧ Hid (∀ (t : Nat) (y : List UInt8), q ≤ t → l[t]? = some y → ¬ y < x)) (fun i j _ => (intOf j).toNat - (intOf i).toNat)
 case atStart => exact ⟨0, n, by omega, by omega, rfl, rfl, Lib.hid (fun _ _ hj => absurd hj (Nat.not_lt_zero _)), Lib.hid (fun t y ht hy => absurd (List.getElem?_eq_some_iff.1 hy).1 (by have := HN.out; omega))⟩
 case round =>
  obtain ⟨p, q, hpq, hq, rfl, rfl, hlo, hhi⟩ := hrel
  by_cases hlt : p < q
  ·have hm : (p + q) / 2 < n := by omega
   obtain ⟨y, hy⟩ : ∃ y, l[(p + q) / 2]? = some y := ⟨_, List.getElem?_eq_getElem (by rw [HN.out]; exact hm)⟩
   obtain ⟨b, off, rfl, hc⟩ := HR.out.scell hy
   have HY := Lib.hid hy
   have HC := Lib.hid (HL.out y)
   unfold sv at HC
   clear hy
   cases hq2 : ltS y x with
   | true =>
     have HQ := Lib.hid hq2
     clear hq2
     go_wp2_with fail
     refine HC.out.mono ?_
     rintro e w' ⟨rfl, rfl⟩
     rw [HQ.out]
     go_wp2_with fail
     go_round
     case rel => exact ⟨(p + q) / 2 + 1, q, by omega, by omega, by congr 1, rfl, Lib.hid (fun t z ht hz => by
      have hyx : y < x := by have := HQ.out; unfold ltS at this; exact of_decide_eq_true this
      rcases Nat.lt_or_ge t ((p + q) / 2) with h | h
      ·obtain ⟨a1, e1⟩ := List.getElem?_eq_some_iff.1 hz
       obtain ⟨a2, e2⟩ := List.getElem?_eq_some_iff.1 HY.out
       have := (List.pairwise_iff_getElem.1 HU.out) t _ a1 a2 h
       rw [e1, e2] at this
       exact slt_trans this hyx
      ·obtain rfl : t = (p + q) / 2 := by omega
       rw [HY.out] at hz
       injection hz with hz
       rw [← hz]; exact hyx), hhi⟩
     case measure => simp [intOf]; omega
   | false =>
     have HQ := Lib.hid hq2
     clear hq2
     go_wp2_with fail
     refine HC.out.mono ?_
     rintro e w' ⟨rfl, rfl⟩
     rw [HQ.out]
     go_wp2_with fail
     go_round
     case rel => exact ⟨p, (p + q) / 2, by omega, by omega, rfl, by congr 1, hlo, Lib.hid (fun t z ht hz => by
      have hyx : ¬ y < x := by have := HQ.out; unfold ltS at this; exact of_decide_eq_false this
      rcases Nat.eq_or_lt_of_le ht with h | h
      ·subst h
       rw [HY.out] at hz
       injection hz with hz
       rw [← hz]; exact hyx
      ·obtain ⟨a1, e1⟩ := List.getElem?_eq_some_iff.1 hz
       obtain ⟨a2, e2⟩ := List.getElem?_eq_some_iff.1 HY.out
       have := (List.pairwise_iff_getElem.1 HU.out) _ t a2 a1 h
       rw [e1, e2] at this
       exact fun hzx => hyx (slt_trans this hzx))⟩
     case measure => simp [intOf]; omega
  ·obtain rfl : p = q := by omega
   by_cases hpn : p < n
   ·obtain ⟨y, hy⟩ : ∃ y, l[p]? = some y := ⟨_, List.getElem?_eq_getElem (by rw [HN.out]; exact hpn)⟩
    obtain ⟨b, off, rfl, hc⟩ := HR.out.scell hy
    have HY := Lib.hid hy
    have HEQ := Lib.hid (eq_sv y x)
    have HP : Hid (hasS l x = decide (y = x)) := Lib.hid (sr_some HU.out hy hlo.out (hhi.out p y (Nat.le_refl _) hy))
    have HC1 := Lib.hid (HNA.out y)
    have HC2 := Lib.hid (HNA.out x)
    unfold sv at HC1 HC2
    rw [← HBX.out] at HEQ HC2
    generalize (⟨y.toArray⟩ : ByteArray) = byy at hc HEQ HC1
    clear hy
    by_cases he : y = x
    ·have h1 : (byy.toList == bx.toList) = true := by rw [HEQ.out]; simp [he]
     have HT : Hid (true = hasS l x) := Lib.hid (by rw [HP.out]; simp [he])
     have HE := Lib.hid he
     clear he
     go_wp2_with fail
     go_ret2
     exact ⟨p, by have := HN.out; omega, ret_pairb rfl HT.out, fun _ => by rw [HY.out, HE.out], rfl⟩
    ·have h1 : (byy.toList == bx.toList) = false := by rw [HEQ.out]; simp [he]
     have HT : Hid (false = hasS l x) := Lib.hid (by rw [HP.out]; simp [he])
     have HM : Hid (x ∉ l) := Lib.hid (fun hm => by have := HT.out; unfold hasS at this; simp [hm] at this)
     clear he
     go_wp2_with fail
     refine HC1.out.mono ?_
     rintro e w' ⟨rfl, rfl⟩
     go_wp2_with fail
     go_ret2
     exact ⟨p, by have := HN.out; omega, ret_pairb rfl HT.out, fun hm => absurd hm HM.out, rfl⟩
   ·obtain rfl : p = n := by omega
    have HT : Hid (false = hasS l x) := Lib.hid (sr_none (fun t y ht hy => hlo.out t y (by have := HN.out; omega) hy)).symm
    have HM : Hid (x ∉ l) := Lib.hid (fun hm => by have := HT.out; unfold hasS at this; simp [hm] at this)
    go_wp2_with fail
    go_ret2
    exact ⟨p, by have := HN.out; omega, ret_pairb rfl HT.out, fun hm => absurd hm HM.out, rfl⟩

def placeMax (l : List (List UInt8)) (s : List UInt8) : Int := if s ∈ l then (l.idxOf s : Nat) else 0
theorem placeMax_in {l : List (List UInt8)} {s : List UInt8} {k : Nat} (hu : Up l) (hs : s ∈ l) (hk : l[k]? = some s) : placeMax l s = k := by
 unfold placeMax
 rw [if_pos hs]
 obtain ⟨h1, h2⟩ := List.getElem?_eq_some_iff.1 hk
 have hlt : l.idxOf s < l.length := List.idxOf_lt_length_iff.2 hs
 have h3 : l[l.idxOf s] = s := List.getElem_idxOf hlt
 rcases Nat.lt_trichotomy (l.idxOf s) k with h | h | h
 ·have := (List.pairwise_iff_getElem.1 hu) _ _ hlt h1 h
  rw [h3, h2] at this
  exact absurd this (slt_irrefl _)
 ·rw [h]
 ·have := (List.pairwise_iff_getElem.1 hu) _ _ h1 hlt h
  rw [h3, h2] at this
  exact absurd this (slt_irrefl _)
theorem nmFind_any {A : Option Addr} {n c : Nat} (l : List (List UInt8)) (x : List UInt8) (w : World) (hr : Rd w A (l.map sv)) (hn : l.length = n) (hb : n ≤ 1099511627776) (hu : Up l) :
 Calls Tryz.prog 72 #[.slice A n c, sv x] w fun e w' => e = .returned (.tuple #[.int .i64 (placeMax l x), .bool (hasS l x)]) ∧ w = w' := by
 have HC := Lib.hid (search_any (c := c) l x w hr hn hb hu)
 have HU := Lib.hid hu
 clear hr hu
 unfold sv at *
 generalize (⟨x.toArray⟩ : ByteArray) = bx at *
 by_cases hx : x ∈ l
 ·have HT : Hid (hasS l x = true) := Lib.hid (by unfold hasS; simp [hx])
  have HX := Lib.hid hx
  clear hx
  go_enter Tryz.func72, Tryz.ntmps72
  go_wp2_with fail
  refine HC.out.mono ?_
  rintro e w' ⟨k, hk, rfl, h2, rfl⟩
  have HP := Lib.hid (placeMax_in HU.out HX.out (h2 HX.out))
  clear h2
  rw [HT.out]
  go_wp2_with fail
  go_ret2
  exact ⟨ret_pairb HP.out.symm HT.out.symm, rfl⟩
 ·have HT : Hid (hasS l x = false) := Lib.hid (by unfold hasS; simp [hx])
  have HP : Hid (placeMax l x = 0) := Lib.hid (by unfold placeMax; rw [if_neg hx])
  clear hx
  go_enter Tryz.func72, Tryz.ntmps72
  go_wp2_with fail
  refine HC.out.mono ?_
  rintro e w' ⟨k, hk, rfl, _, rfl⟩
  rw [HT.out]
  go_wp2_with fail
  go_ret2
  exact ⟨ret_pairb HP.out.symm HT.out.symm, rfl⟩
end Go.Proofs.YtoandhhkmkgmaaaGreatDoor
namespace Go.Proofs.YtoandhhkmkgmaaaGreatDoor
open Go.RowKit

theorem own_empty (w : World) (e : TypeId) : (w.alloc (.cells #[] e)).ownsRow w.heap.size e 1 (.slice (some ⟨w.heap.size, 0, none⟩) 0 0) 0 [] := World.ownsRow_made w #[] 0 (Nat.le_refl _) (Nat.zero_le _) rfl
set_option maxHeartbeats 1000000 in
theorem sClone_any {A : Option Addr} {n c : Nat} (l : List (List UInt8)) (w : World) (hr : Rd w A (l.map sv)) (hn : l.length = n) (hb : n ≤ 1099511627776) :
 Calls Tryz.prog 69 #[.slice A n c] w fun e w' => ∃ A' c', e = .returned (.slice A' n c') ∧ w'.ownsRow w.heap.size 9 1 (.slice A' n c') n (l.map sv) ∧ Below w.heap.size w w' := by
 have HR := Lib.hid hr
 have HN := Lib.hid hn
 clear hr hn
 cases A with
 | none =>
   have hl : l = [] := List.map_eq_nil_iff.1 (rd_none HR.out)
   have h0 : n = 0 := by rw [← HN.out, hl]; rfl
   subst h0
   subst hl
   have hnil := fun w => Lib.run_eql_slice_nil (P := Tryz.prog) w 22 9 none 0 c 0 0 Tryz.underlying22
   go_enter Tryz.func69, Tryz.ntmps69
   go_wp2_with fail
   go_ret
   exact ⟨none, _, rfl, World.ownsRow_nil _ _ _ _, Below.refl _ _⟩
 | some a =>
   have hnil := fun w => Lib.run_eql_slice_nil (P := Tryz.prog) w 22 9 (some a) n c 0 0 Tryz.underlying22
   go_enter Tryz.func69, Tryz.ntmps69
   go_wp2_with (at_builtin; refine wpList_cat elStr (w.alloc (.cells #[] 9)) _ _ w.heap.size _ 0 0 [] (some a) n c (l.map sv) (own_empty w _) (HR.out.alloc _) (by rw [List.length_map]; exact HN.out) (sv_one l) (by simp) (by omega) (by omega) rfl rfl rfl rfl ?_; intro A' c' w5 hown5 hb5)
   rw [Nat.zero_add, List.nil_append] at hown5
   have HO := Lib.hid hown5
   have HB := Lib.hid ((below_new (Below.refl w.heap.size w) (.cells #[] 9)).trans hb5)
   clear hown5 hb5
   go_wp2_with fail
   go_ret
   exact ⟨A', c', rfl, HO.out, HB.out⟩
end Go.Proofs.YtoandhhkmkgmaaaGreatDoor
