/- Contract: the reference's Rising. At most 8800000000000 texts. -/
import Derived.Test.YtoandhhkmkgmaaaMg4
import Derived.Test.YtoandhhkmkgmaaaOwn2
import Derived.Test.YtoandhhkmkgmaaaAppendReg
import Derived.Test.YtoandhhkmkgmaaaWide
namespace Go.Proofs.Ytoandhhkmkgmaaa
open Go.RowKit

theorem elStr : ElT Try.prog 32 9 (.string ⟨#[]⟩) 16 := ElT.mk' Try.underlying32 (by kernel_rfl) rfl
theorem sv_one (l : List (List UInt8)) : ∀ u ∈ l.map sv, u.oneCell' = true := by
  intro u hu
  obtain ⟨x, _, rfl⟩ := List.mem_map.1 hu
  rfl
theorem bytesLess_lt : ∀ (x y : List UInt8), Op.bytesLess x y = decide (x < y)
  | [], [] => by simp [Op.bytesLess]
  | [], _ :: _ => by simp [Op.bytesLess]
  | _ :: _, [] => by simp [Op.bytesLess]
  | a :: x, b :: y => by
    rw [Op.bytesLess, bytesLess_lt x y, Bool.eq_iff_iff]
    simp [List.cons_lt_cons_iff]
theorem less_sv (x y : List UInt8) : Op.bytesLess (⟨x.toArray⟩ : ByteArray).toList (⟨y.toArray⟩ : ByteArray).toList = decide (x < y) := by
  rw [Lib.toList_data, Lib.toList_data]
  exact bytesLess_lt x y
theorem lowS_eq {out : List (List UInt8)} {s : List UInt8} {k : Nat} (h1 : ∀ (j : Nat) (x : List UInt8), j < k → out[j]? = some x → x < s) (hk : k ≤ out.length)
    (h2 : k = out.length ∨ ∃ x, out[k]? = some x ∧ ¬ x < s) : lowS out s = k := by
  induction out generalizing k with
  | nil =>
    simp at hk
    subst hk; rfl
  | cons y out ih =>
    unfold lowS
    cases k with
    | zero =>
      rcases h2 with h2 | ⟨x, hx, hn⟩
      · simp at h2
      · simp at hx
        subst hx
        simp [hn]
    | succ k =>
      have hy := h1 0 y (by omega) rfl
      have := ih (k := k) (fun j x hj hx => h1 (j + 1) x (by omega) hx) (by simp at hk; exact hk) (by
        rcases h2 with h2 | ⟨x, hx, hn⟩
        · left; simp at h2; exact h2
        · right; exact ⟨x, by simpa using hx, hn⟩)
      unfold lowS at this
      simp [hy, this]
theorem own_more {w : World} {B e n c : Nat} {A : Option Addr} {xs : List Value} (h : w.ownsRow B e 1 (.slice A n c) n xs) (hn : 0 < n) : ∃ g, A = some ⟨g, 0, none⟩ ∧ n ≤ c := by
  rcases h.2 with ⟨_, h0⟩ | ⟨g, cap, cur, hv, _, _, h1, _⟩
  · omega
  · injection hv with hA _ hc
    exact ⟨g, hA, by omega⟩
theorem lit_cell {w : World} {v : Value} {e : TypeId} : ∀ (j : Nat) (u : Value), ([v] : List Value)[j]? = some u → (w.drew.alloc (.cells #[v] e)).cell? ((⟨w.heap.size, 0, none⟩ : Addr).add j) = some u := by
  intro j u hj
  match j, hj with
  | 0, hj =>
    simp at hj
    subst hj
    unfold Addr.add
    rw [if_pos rfl]
    show (w.drew.alloc (.cells #[v] e)).cell? ⟨w.drew.heap.size, 0, none⟩ = some v
    rw [World.cell?_alloc_at _ _ _ _ rfl]
    rfl
theorem own_cells {w : World} {B e g n c : Nat} {xs : List Value} (h : w.ownsRow B e 1 (.slice (some ⟨g, 0, none⟩) n c) n xs) : ∀ (j : Nat) (u : Value), xs[j]? = some u → w.cell? ((⟨g, 0, none⟩ : Addr).add j) = some u := fun j u hj => h.cells (g := g) rfl j u hj
theorem drew_alloc_below (w : World) (o : Obj) : Below w.heap.size w (w.drew.alloc o) := Below.alloc (a := w) (w := w.drew) ⟨rfl, rfl, rfl, Nat.le_refl _, fun _ _ => rfl⟩ (Nat.le_refl _) o
/-- The slice's address, if there is one, is a block that was made since. -/
def NewAt (w : World) (A : Option Addr) : Prop := ∀ g o, A = some ⟨g, o, none⟩ → w.heap.size ≤ g
theorem newAt_of {w : World} {g7 b : Nat} (h : b ≤ g7) (hb : w.heap.size ≤ b) : NewAt w (some ⟨g7, 0, none⟩) := fun g o e => by
  injection e with e
  injection e with e _ _
  omega
theorem newAt_none (w : World) : NewAt w none := fun _ _ e => by cases e
/-- What holds between two texts. -/
def RisRel (l : List (List UInt8)) (w : World) (k : Nat) (v : Value) (wr : World) : Prop :=
  ∃ (A : Option Addr) (m c : Nat) (out : List (List UInt8)), v = .slice A m c ∧ m ≤ k ∧ m ≤ c ∧ (A = none → m = 0 ∧ c = 0) ∧ Hid (out.length = m) ∧ Hid (Rd wr A (out.map sv)) ∧ Hid (out = rising (l.take k)) ∧ Hid (Below w.heap.size w wr) ∧ (m = 0 → A = none) ∧ Hid (NewAt w A)
def RisPostN (l : List (List UInt8)) (w : World) (e : Ending) (w' : World) : Prop :=
  ∃ (A : Option Addr) (c : Nat), e = .returned (.slice A (rising l).length c) ∧ Rd w' A ((rising l).map sv) ∧ Below w.heap.size w w' ∧ NewAt w A
def RisPost (l : List (List UInt8)) (w : World) (e : Ending) (w' : World) : Prop :=
  ∃ (A : Option Addr) (c : Nat), e = .returned (.slice A (rising l).length c) ∧ Rd w' A ((rising l).map sv) ∧ Below w.heap.size w w'
set_option maxRecDepth 100000 in
set_option maxHeartbeats 2000000 in
theorem rRisingN_any {A : Option Addr} {n c : Nat} (l : List (List UInt8)) (w : World) (hr : Rd w A (l.map sv)) (hn : l.length = n) (hb : n ≤ 8800000000000) :
    Calls Try.prog 49 #[.slice A n c] w (RisPostN l w) := by
  have HR := Lib.hid hr
  have HN := Lib.hid hn
  clear hr hn
  go_enter Try.func49, Try.ntmps49
  go_wp2_with fail
  go_loopw [3, 5, 6, 9] (fun v _ _ i wr => ∃ k : Nat, k ≤ n ∧ i = .int .i64 (k : Int) ∧ RisRel l w k v wr) (fun _ _ _ i _ => n - (intOf i).toNat)
  case atStart => exact ⟨0, by omega, rfl, none, 0, 0, [], rfl, by omega, by omega, fun _ => ⟨rfl, rfl⟩, Lib.hid rfl, Lib.hid (Rd.nil_ _ _), Lib.hid rfl, Lib.hid (Below.refl _ _), fun _ => rfl, Lib.hid (newAt_none w)⟩
  case round =>
    obtain ⟨k, hk, rfl, A2, m, c2, out, rfl, hm, hmc, hnone, hol, hrd, hout, hbw, hm0, HNW⟩ := hrel
    by_cases hlt : k < n
    · obtain ⟨s, hs⟩ : ∃ s, l[k]? = some s := ⟨_, List.getElem?_eq_getElem (by rw [HN.out]; exact hlt)⟩
      obtain ⟨b, off, rfl, hc⟩ := (HR.out.below hbw.out).scell hs
      have HT : Hid (rising (l.take (k + 1)) = putR out s) := Lib.hid (by rw [List.take_add_one, hs]; show rising (l.take k ++ [s]) = _; rw [rising_snoc, hout.out])
      obtain ⟨bs, hbs⟩ : ∃ bs : ByteArray, (⟨s.toArray⟩ : ByteArray) = bs := ⟨_, rfl⟩
      rw [hbs] at hc
      have HP := Lib.hid (place_any (c := c2) out s wr hrd.out hol.out (by omega))
      unfold sv at HP
      rw [hbs] at HP
      have HBS := Lib.hid hbs
      clear hbs
      have HNONE := Lib.hid hnone
      have HM0 := Lib.hid hm0
      clear hs hnone hm0
      go_wp2_with fail
      refine HP.out.mono ?_
      rintro e w' ⟨i, rfl, rfl, hi⟩
      rcases hi with ⟨rfl, hni⟩ | ⟨q, rfl, hq⟩
      · have HNI := Lib.hid hni
        have HPUT : Hid (putR out s = out.take (lowS out s) ++ s :: out.drop (lowS out s)) := Lib.hid (by unfold putR; rw [if_neg hni])
        clear hni hc
        go_wp2_with fail
        go_loop [6] (fun x => ∃ q : Nat, q ≤ m ∧ x = .int .i64 (q : Int) ∧ Hid (∀ (j : Nat) (x : List UInt8), j < q → out[j]? = some x → x < s)) (fun x => m - (intOf x).toNat)
        case atStart => exact ⟨0, by omega, rfl, Lib.hid (fun _ _ hj => absurd hj (Nat.not_lt_zero _))⟩
        case round =>
          obtain ⟨q, hq, rfl, hls⟩ := hrel
          by_cases hqm : q < m
          · obtain ⟨y, hy⟩ : ∃ y, out[q]? = some y := ⟨_, List.getElem?_eq_getElem (by rw [hol.out]; exact hqm)⟩
            obtain ⟨b2, o2, rfl, hcq⟩ := hrd.out.scell hy
            have HLT := Lib.hid (less_sv y s)
            rw [HBS.out] at HLT
            have HY := Lib.hid hy
            generalize (⟨y.toArray⟩ : ByteArray) = bY at hcq HLT
            clear hy
            by_cases hys : y < s
            · have h1 : Op.bytesLess bY.toList bs.toList = true := by rw [HLT.out]; simp [hys]
              have HYS := Lib.hid hys
              clear hys
              go_wp2_with fail
              go_round
              case rel => exact ⟨q + 1, by omega, by go_num, Lib.hid (fun j x hj hx => by
                rcases Nat.lt_or_ge j q with h | h
                · exact hls.out j x h hx
                · obtain rfl : j = q := by omega
                  rw [HY.out] at hx
                  injection hx with hx
                  rw [← hx]; exact HYS.out)⟩
              case measure => simp [intOf]; omega
            · have h1 : Op.bytesLess bY.toList bs.toList = false := by rw [HLT.out]; simp [hys]
              have HLOW : Hid (lowS out s = q) := Lib.hid (lowS_eq hls.out (by rw [hol.out]; exact hq) (.inr ⟨y, HY.out, hys⟩))
              clear hys hls
              go_wp2_with fail
              obtain ⟨ht, i0, hi, hz, hs1, hby, hzs⟩ := elStr
              have hrd0 : Rd (wr.drew.alloc (.cells #[.string bs] 9)) (some ⟨b2, o2, none⟩) (out.map sv) := hrd.out.below (drew_alloc_below wr _)
              have hdw := drew_alloc_below wr (.cells #[.string bs] 9)
              have HSVS : Hid (Value.string bs = sv s) := Lib.hid (by rw [← HBS.out]; rfl)
              have q0 : (0 : Int) ≤ (q : Int) := by omega
              have q2 : q ≤ c2 := by omega
              have q1 : (q : Int) ≤ (m : Int) := by omega
              have hcf : (c2 = q) = False := by simp; omega
              have H1 := Lib.hid (rd_head (j := q) hrd0)
              have H2 := Lib.hid (lit_cell (w := wr) (v := .string bs) (e := 9))
              have H3 : Hid (((out.take q).map sv).length = q * 1) := Lib.hid (by rw [List.length_map, List.length_take, hol.out]; omega)
              have H4 := Lib.hid (rd_tail (j := q) hrd0)
              have H5 : Hid (((out.drop q).map sv).length = (m - q) * 1) := Lib.hid (by rw [List.length_map, List.length_drop, hol.out]; omega)
              have H6 := Lib.hid (sv_one (out.drop q))
              have HS6 : Hid ((([.string bs] : List Value) ++ (out.drop q).map sv).length = (1 + (m - q)) * 1) := Lib.hid (by rw [List.length_append, H5.out]; simp)
              have HS7 : Hid (∀ u ∈ ([.string bs] : List Value) ++ (out.drop q).map sv, u.oneCell' = true) := Lib.hid (fun u hu => (List.mem_append.1 hu).elim (fun h => by rw [List.mem_singleton] at h; rw [h]; rfl) (fun h => H6.out u h))
              have HDW := Lib.hid hdw
              have HRD := Lib.hid hrd0
              have hmq : 0 < m - q := by omega
              clear hrd0 hdw
              go_region_law (first
                | (refine step_grows_wide elStr (by decide) (by decide) rfl (.tmp 36) (.tmp 39) rfl (some ⟨wr.heap.size, 0, none⟩) 1 1 [.string bs] (by simp [Act.eval]) (by intro h; cases h) rfl (by intro a ha; injection ha with ha; rw [← ha]; exact H2.out) ⟨b2, o2 + q, none⟩ (m - q) (c2 - q) ((out.drop q).map sv) (by simp [Act.eval]) (by have := H5.out; omega) H4.out H6.out (by omega) (by omega) ?_; intro v6 w6 hown6 hg6; obtain ⟨A6, c6, rfl⟩ := own_form hown6; obtain ⟨g6, rfl, hcap6⟩ := own_more hown6 (by omega); have HG6 := Lib.hid hg6; have HO6 := Lib.hid (own_cells hown6); have HB6 := Lib.hid ((Below.refl _ _).grown hg6 (Nat.le_refl _) (fun k h => by cases h)); have HH6 := Lib.hid (rd_head (j := q) (HRD.out.below HB6.out)); clear hown6 hg6)
                | (refine step_grows_wide elStr (by decide) (by decide) rfl (.tmp 34) (.tmp 40) rfl (some ⟨b2, o2, none⟩) q q ((out.take q).map sv) (by simp [Act.eval]) (by intro h; cases h) (by have := H3.out; omega) HH6.out ⟨g6, 0, none⟩ (1 + (m - q)) c6 (([.string bs] : List Value) ++ (out.drop q).map sv) (by simp [Act.eval]) (by have := HS6.out; omega) HO6.out HS7.out (by omega) (by omega) ?_; intro v7 w7 hown7 hg7; obtain ⟨A7, c7, rfl⟩ := own_form hown7))
              have hb7 : Below wr.heap.size wr w7 := HDW.out.trans ((HB6.out.trans ((Below.refl _ _).grown hg7 HB6.out.size (fun k h => by cases h))).mono (by simp))
              go_simp
              clear ht hi hz hs1 hby hzs
              have HB7 := Lib.hid (hbw.out.trans (hb7.mono hbw.out.size))
              have HLN : Hid ((out.take q ++ s :: out.drop q).length = (q + (1 + (m - q)))) := Lib.hid (by have := hol.out; simp only [List.length_append, List.length_take, List.length_cons, List.length_drop]; omega)
              have HR7 : Hid (Rd w7 A7 ((out.take q ++ s :: out.drop q).map sv)) := Lib.hid (by
                have := Rd.of_own hown7
                rw [HSVS.out, show (out.take q).map sv ++ ([sv s] ++ (out.drop q).map sv) = (out.take q ++ s :: out.drop q).map sv by rw [List.map_append, List.map_cons]; rfl] at this
                exact this)
              obtain ⟨g7, rfl, hcap7⟩ := own_more hown7 (by omega)
              have HN7 : Hid (NewAt w (some ⟨g7, 0, none⟩)) := Lib.hid (newAt_of (hown7.lt g7 rfl).1 (Nat.le_trans hbw.out.size (Nat.le_trans HDW.out.size HB6.out.size)))
              have hLk : (q + (1 + (m - q))) ≤ k + 1 := by omega
              have HPZ : Hid (out.take q ++ s :: out.drop q = rising (l.take (k + 1))) := Lib.hid (by rw [HT.out, HPUT.out, HLOW.out])
              clear hown7 hb7
              generalize out.take q ++ s :: out.drop q = out7 at *
              obtain ⟨L7, hL7⟩ : ∃ L7, L7 = (q + (1 + (m - q))) := ⟨_, rfl⟩
              have hl0 : 0 < L7 := by omega
              rw [← hL7] at HLN hcap7 hLk ⊢
              clear hL7
              go_wp2_with fail
              go_roundw
              case rel => exact ⟨k + 1, by omega, by go_num, some ⟨g7, 0, none⟩, L7, c7, out7, rfl, hLk, hcap7, (fun h => by cases h), HLN, HR7, HPZ, HB7, (fun h => by omega), HN7⟩
              case measure => simp [intOf]; omega
          · obtain rfl : q = m := by omega
            have HLOW : Hid (lowS out s = q) := Lib.hid (lowS_eq hls.out (by rw [hol.out]; exact Nat.le_refl _) (.inl hol.out.symm))
            clear hls
            by_cases hz0 : q = 0
            · skip
              have hA2 : A2 = none := HM0.out hz0
              subst hA2
              obtain ⟨_, hc2⟩ := HNONE.out rfl
              subst hc2
              subst hz0
              have hl0 : out = [] := List.eq_nil_of_length_eq_zero hol.out
              go_wp2_with fail
              obtain ⟨ht, i0, hi, hz, hs1, hby, hzs⟩ := elStr
              have HSVS : Hid (Value.string bs = sv s) := Lib.hid (by rw [← HBS.out]; rfl)
              have H2 := Lib.hid (lit_cell (w := wr) (v := .string bs) (e := 9))
              have HDW := Lib.hid (drew_alloc_below wr (.cells #[.string bs] 9))
              have HL0 := Lib.hid hl0
              clear hl0
              go_region_law (first
                | (refine step_append_none rfl (.tmp 36) (.tmp 39) 32 rfl 9 i0 ht hi ⟨wr.heap.size, 0, none⟩ 1 1 (by simp [Act.eval]) (Nat.le_refl _) none 0 (by simp [Act.eval]) ?_)
                | (refine step_grows_wide elStr (by decide) (by decide) rfl (.tmp 34) (.tmp 40) rfl none 0 0 [] (by simp [Act.eval]) (fun _ => ⟨rfl, rfl⟩) rfl (by intro b h; cases h) ⟨wr.heap.size, 0, none⟩ 1 1 [.string bs] (by simp [Act.eval]) rfl H2.out (by intro u hu; rw [List.mem_singleton] at hu; rw [hu]; rfl) (by omega) (by omega) ?_; intro v7 w7 hown7 hg7; obtain ⟨A7, c7, rfl⟩ := own_form hown7))
              have hb7 : Below wr.heap.size wr w7 := HDW.out.trans ((Below.refl _ _).grown hg7 (by simp) (fun k h => by cases h))
              go_simp
              clear ht hi hz hs1 hby hzs
              have HB7 := Lib.hid (hbw.out.trans (hb7.mono hbw.out.size))
              have HLN : Hid ((out.take 0 ++ s :: out.drop 0).length = 1) := Lib.hid (by have := hol.out; simp only [List.length_append, List.length_take, List.length_cons, List.length_drop]; omega)
              have HR7 : Hid (Rd w7 A7 ((out.take 0 ++ s :: out.drop 0).map sv)) := Lib.hid (by
                have := Rd.of_own hown7
                rw [HSVS.out, show ([] : List Value) ++ [sv s] = (out.take 0 ++ s :: out.drop 0).map sv by rw [HL0.out]; rfl] at this
                exact this)
              obtain ⟨g7, rfl, hcap7⟩ := own_more hown7 (by omega)
              have HN7 : Hid (NewAt w (some ⟨g7, 0, none⟩)) := Lib.hid (newAt_of (hown7.lt g7 rfl).1 (Nat.le_trans hbw.out.size HDW.out.size))
              have hLk : 1 ≤ k + 1 := by omega
              have HPZ : Hid (out.take 0 ++ s :: out.drop 0 = rising (l.take (k + 1))) := Lib.hid (by rw [HT.out, HPUT.out, HLOW.out])
              clear hown7 hb7
              generalize out.take 0 ++ s :: out.drop 0 = out7 at *
              go_wp2_with fail
              go_roundw
              case rel => exact ⟨k + 1, by omega, by go_num, some ⟨g7, 0, none⟩, 1, c7, out7, rfl, hLk, hcap7, (fun h => by cases h), HLN, HR7, HPZ, HB7, (fun h => by omega), HN7⟩
              case measure => simp [intOf]; omega
            · obtain ⟨b2, o2, rfl, _, _⟩ := hrd.out (by rw [List.length_map, hol.out]; omega)
              go_wp2_with fail
              obtain ⟨ht, i0, hi, hz, hs1, hby, hzs⟩ := elStr
              have hrd0 : Rd (wr.drew.alloc (.cells #[.string bs] 9)) (some ⟨b2, o2, none⟩) (out.map sv) := hrd.out.below (drew_alloc_below wr _)
              have hdw := drew_alloc_below wr (.cells #[.string bs] 9)
              have HSVS : Hid (Value.string bs = sv s) := Lib.hid (by rw [← HBS.out]; rfl)
              have q0 : (0 : Int) ≤ (q : Int) := by omega
              have q2 : q ≤ c2 := by omega
              have H1 := Lib.hid (rd_head (j := q) hrd0)
              have H2 := Lib.hid (lit_cell (w := wr) (v := .string bs) (e := 9))
              have H3 : Hid (((out.take q).map sv).length = q * 1) := Lib.hid (by rw [List.length_map, List.length_take, hol.out]; omega)
              have HDW := Lib.hid hdw
              clear hrd0 hdw
              go_region_law (first
                | (refine step_append_none rfl (.tmp 36) (.tmp 39) 32 rfl 9 i0 ht hi ⟨wr.heap.size, 0, none⟩ 1 1 (by simp [Act.eval]) (Nat.le_refl _) (if c2 = q then some ⟨b2, o2, none⟩ else some ⟨b2, o2 + q, none⟩) (c2 - q) (by simp [Act.eval]) ?_)
                | (refine step_grows_wide elStr (by decide) (by decide) rfl (.tmp 34) (.tmp 40) rfl (some ⟨b2, o2, none⟩) q q ((out.take q).map sv) (by simp [Act.eval]) (by intro h; cases h) (by have := H3.out; omega) H1.out ⟨wr.heap.size, 0, none⟩ 1 1 [.string bs] (by simp [Act.eval]) rfl H2.out (by intro u hu; rw [List.mem_singleton] at hu; rw [hu]; rfl) (by omega) (by omega) ?_; intro v7 w7 hown7 hg7; obtain ⟨A7, c7, rfl⟩ := own_form hown7))
              have hb7 : Below wr.heap.size wr w7 := HDW.out.trans ((Below.refl _ _).grown hg7 (by simp) (fun k h => by cases h))
              go_simp
              clear ht hi hz hs1 hby hzs
              have HB7 := Lib.hid (hbw.out.trans (hb7.mono hbw.out.size))
              have HLN : Hid ((out.take q ++ s :: out.drop q).length = (q + 1)) := Lib.hid (by have := hol.out; simp only [List.length_append, List.length_take, List.length_cons, List.length_drop]; omega)
              have HR7 : Hid (Rd w7 A7 ((out.take q ++ s :: out.drop q).map sv)) := Lib.hid (by
                have := Rd.of_own hown7
                rw [HSVS.out, show (out.take q).map sv ++ [sv s] = (out.take q ++ s :: out.drop q).map sv by rw [List.map_append, List.map_cons, List.drop_eq_nil_of_le (by rw [hol.out]; exact Nat.le_refl _)]; rfl] at this
                exact this)
              obtain ⟨g7, rfl, hcap7⟩ := own_more hown7 (by omega)
              have HN7 : Hid (NewAt w (some ⟨g7, 0, none⟩)) := Lib.hid (newAt_of (hown7.lt g7 rfl).1 (Nat.le_trans hbw.out.size HDW.out.size))
              have hLk : (q + 1) ≤ k + 1 := by omega
              have HPZ : Hid (out.take q ++ s :: out.drop q = rising (l.take (k + 1))) := Lib.hid (by rw [HT.out, HPUT.out, HLOW.out])
              clear hown7 hb7
              generalize out.take q ++ s :: out.drop q = out7 at *
              obtain ⟨L7, hL7⟩ : ∃ L7, L7 = (q + 1) := ⟨_, rfl⟩
              have hl0 : 0 < L7 := by omega
              rw [← hL7] at HLN hcap7 hLk ⊢
              clear hL7
              go_wp2_with fail
              go_roundw
              case rel => exact ⟨k + 1, by omega, by go_num, some ⟨g7, 0, none⟩, L7, c7, out7, rfl, hLk, hcap7, (fun h => by cases h), HLN, HR7, HPZ, HB7, (fun h => by omega), HN7⟩
              case measure => simp [intOf]; omega
      · have HPUT : Hid (putR out s = out) := Lib.hid (by unfold putR; rw [if_pos (List.mem_of_getElem? hq)])
        clear hq hc
        go_wp2_with fail
        go_roundw
        case rel => exact ⟨k + 1, by omega, by go_num, A2, m, c2, out, rfl, by omega, hmc, HNONE.out, hol, hrd, Lib.hid (by rw [HT.out, HPUT.out]), hbw, HM0.out, HNW⟩
        case measure => simp [intOf]; omega
    · obtain rfl : k = n := by omega
      have HE : Hid (out = rising l) := Lib.hid (by rw [hout.out, List.take_of_length_le (by rw [HN.out]; exact Nat.le_refl _)])
      have HML : Hid (m = (rising l).length) := Lib.hid (by rw [← HE.out]; exact hol.out.symm)
      have HRD : Hid (Rd wr A2 ((rising l).map sv)) := Lib.hid (by rw [← HE.out]; exact hrd.out)
      clear hout hrd hol hnone hm0
      go_wp2_with fail
      go_ret
      exact ⟨A2, c2, by rw [← HML.out]; rfl, HRD.out, hbw.out, HNW.out⟩
theorem rRising_any {A : Option Addr} {n c : Nat} (l : List (List UInt8)) (w : World) (hr : Rd w A (l.map sv)) (hn : l.length = n) (hb : n ≤ 8800000000000) :
    Calls Try.prog 49 #[.slice A n c] w (RisPost l w) :=
  (rRisingN_any l w hr hn hb).mono fun _ _ ⟨A, c, h1, h2, h3, _⟩ => ⟨A, c, h1, h2, h3⟩
end Go.Proofs.Ytoandhhkmkgmaaa
