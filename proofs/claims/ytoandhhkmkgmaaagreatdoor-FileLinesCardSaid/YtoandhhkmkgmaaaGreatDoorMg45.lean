/- Some of the proof's texts, merged; each one's own words stand ahead of it. -/
import Derived.Test.YtoandhhkmkgmaaaGreatDoorMg44
import Derived.WalkSpells
import Derived.WalkLawsBesides
import Derived.BigQuiet
import Derived.Deep.QuietTactic
/- The reference's FileLines: the walk. -/
namespace Go.Proofs.YtoandhhkmkgmaaaGreatDoor
open Go.RowKit

theorem rInc_any {t : List TxtT} {At : Option Addr} {nt ct M : Nat} (HT : TxtOk t) (hnt : t.length = nt) (htl : ∀ x ∈ t, x.2.length ≤ 1000000) : ∀ d, IncDoes t At nt ct M d
  | 0 => fun op s m Ao no co W _ _ _ _ hop _ _ => by have := hop.pos.1; omega
  | d + 1 => rInc_step HT (rInc_any HT hnt htl d) hnt htl
set_option maxRecDepth 100000 in
set_option maxHeartbeats 8000000 in
theorem rFileLines_any {A : Option Addr} {n c : Nat} (s : List UInt8) (t : List TxtT) (w : World) (hr : Rd w A (macV t)) (hn : t.length = n) (hc : n ≤ c) (hs : s.length ≤ 1000000) (ht : ∀ x ∈ t, x.1.length ≤ 9223372036854775807 ∧ x.2.length ≤ 1000000) (hcb : c ≤ 9223372036854775807) :
    Calls Tryz.prog 29 #[sv s, .slice A n c] w (LinPost s t w) := by
  have HR := Lib.hid hr
  have HN := Lib.hid hn
  have HT := Lib.hid ht
  have HSL := Lib.hid hs
  obtain ⟨bs, hbs⟩ : ∃ bs, sv s = .string bs := ⟨_, rfl⟩
  have HBS := Lib.hid hbs
  rw [hbs]
  clear hr hn ht hs hbs
  go_enter Tryz.func29, Tryz.ntmps29
  by_cases h20 : 20 < n
  · have q1 : decide ((20 : Int) < (n : Int)) = true := by simp; omega
    have HE : Hid (linesF s t = (2, [])) := Lib.hid (by unfold linesF; rw [if_pos (by rw [HN.out]; exact h20)])
    clear h20
    go_wp2_with fail
    go_ret2
    exact linPost_no (Below.refl _ _) HE.out
  · have q1 : decide ((20 : Int) < (n : Int)) = false := by simp; omega
    have H20 := Lib.hid h20
    clear h20
    go_wp2_with fail
    go_loopw [16] (fun i wr => ∃ j : Nat, j ≤ n ∧ i = .int .i64 (j : Int) ∧ Hid (Below w.heap.size w wr) ∧ Hid (TxtOk (t.take j)) ∧ Hid (txtE [] 0 t = txtE (t.take j) j (t.drop j))) (fun i _ => n - (intOf i).toNat)
    case atStart => exact ⟨0, by omega, rfl, Lib.hid (Below.refl _ _), Lib.hid TxtOk.nil, Lib.hid rfl⟩
    case round =>
      obtain ⟨j, hj, rfl, HBj, HOj, HEj⟩ := hrel
      by_cases hlt : j < n
      · obtain ⟨x, hx⟩ : ∃ x, t[j]? = some x := ⟨_, List.getElem?_eq_getElem (by rw [HN.out]; exact hlt)⟩
        obtain ⟨bA, off, rfl, c0, c1⟩ := (HR.out.below HBj.out).macs hx
        have HXS := Lib.hid (HT.out x (List.mem_of_getElem? hx))
        have HTA := Lib.hid (txtE_at hx)
        have HTK : Hid (t.take (j + 1) = t.take j ++ [x]) := Lib.hid (by rw [List.take_add_one, hx]; rfl)
        obtain ⟨xn, xv⟩ := x
        dsimp only at c0 c1 HXS HTA
        obtain ⟨bn, hbn⟩ : ∃ bn, sv xn = .string bn := ⟨_, rfl⟩
        obtain ⟨bv, hbv⟩ : ∃ bv, sv xv = .string bv := ⟨_, rfl⟩
        rw [hbn] at c0
        rw [hbv] at c1
        have HBN := Lib.hid hbn
        have hb5 := below_new (Below.refl wr.heap.size wr) (.cells #[.string bn, .string bv] 61)
        have HB5 := Lib.hid (below_then HBj.out hb5)
        have HK5 := Lib.hid (Blk.new wr #[.string bn, .string bv] 61)
        have HG : Hid (∀ W, Calls Tryz.prog 66 #[.string bn] W fun e' w' => e' = .returned (.bool (goodName xn)) ∧ W = w') := Lib.hid (fun W => by rw [← hbn]; exact goodName_any _ W HXS.out.1)
        have k1 : (j : Int) < (n : Int) := by omega
        clear hx hbn hbv hb5
        go_upto_region 6 with fail
        generalize wr.alloc (.cells #[.string bn, .string bv] 61) = w5 at *
        generalize wr.heap.size = k5 at *
        have y0 := HK5.out.cell (j := 0) rfl
        clear c0 c1
        cases hg : goodName xn with
        | false =>
          have HE : Hid (linesF s t = (3, [])) := Lib.hid (by
            have e : txtE [] 0 t = 3 := by rw [HEj.out, HTA.out, if_pos hg]
            unfold linesF
            rw [if_neg (by rw [HN.out]; exact H20.out), e, if_pos (by decide)])
          rw [hg] at HG
          clear hg
          go_wp2_with fail
          refine (HG.out _).mono ?_
          rintro e w7 ⟨rfl, rfl⟩
          go_wp2_with fail
          go_ret2
          exact linPost_no HB5.out HE.out
        | true =>
          have HGD := Lib.hid hg
          rw [hg] at HG
          have k2 : (0 : Int) ≤ (j : Int) := by omega
          have k3 : (j : Int) ≤ (c : Int) := by omega
          clear hg
          go_wp2_with fail
          refine (HG.out _).mono ?_
          rintro e w7 ⟨rfl, rfl⟩
          go_wp2_with fail
          clear y0
          go_loopw [29] (fun i wr => ∃ q : Nat, q ≤ j ∧ i = .int .i64 (q : Int) ∧ Hid (Below w5.heap.size w5 wr) ∧ Hid (xn ∉ ((t.take j).take q).map (·.1))) (fun i _ => j - (intOf i).toNat)
          case atStart => exact ⟨0, by omega, rfl, Lib.hid (Below.refl _ _), Lib.hid (by simp)⟩
          case round =>
            obtain ⟨q, hq, rfl, HBq, HNq⟩ := hrel
            by_cases hlq : q < j
            · obtain ⟨z, hz⟩ : ∃ z, t[q]? = some z := ⟨_, List.getElem?_eq_getElem (by rw [HN.out]; omega)⟩
              obtain ⟨bA', off', he', c0, c1⟩ := (HR.out.below (below_then HB5.out HBq.out)).macs hz
              injection he' with he'
              injection he' with he1 he2 _
              subst he1 he2
              have HZK : Hid ((t.take j).take (q + 1) = (t.take j).take q ++ [z]) := Lib.hid (by rw [List.take_add_one, List.getElem?_take, if_pos hlq, hz]; rfl)
              have HZM : Hid (z ∈ t.take j) := Lib.hid (List.mem_iff_getElem?.2 ⟨q, by rw [List.getElem?_take, if_pos hlq, hz]⟩)
              obtain ⟨zn, zv⟩ := z
              dsimp only at c0 c1
              have hee := eq_sv zn xn
              have hbx : (⟨xn.toArray⟩ : ByteArray) = bn := by have := HBN.out; unfold sv at this; injection this
              rw [hbx] at hee
              unfold sv at c0 c1
              generalize (⟨zn.toArray⟩ : ByteArray) = bz at *
              generalize (⟨zv.toArray⟩ : ByteArray) = bu at *
              have hb9 := below_new (Below.refl wr.heap.size wr) (.cells #[.string bz, .string bu] 61)
              have HB9 := Lib.hid (below_then HBq.out hb9)
              have HK9 := Lib.hid (Blk.new wr #[.string bz, .string bu] 61)
              have m1 : (q : Int) < (j : Int) := by omega
              clear hz hb9 hbx
              go_upto_region 11 with fail
              generalize wr.alloc (.cells #[.string bz, .string bu] 61) = w9 at *
              generalize wr.heap.size = k9 at *
              have z0 := HK9.out.cell (j := 0) rfl
              have x0 := (HK5.out.below HB9.out HK5.out.lt).cell (j := 0) rfl
              clear c0 c1
              by_cases hzy : zn = xn
              · have hee2 : (bz.toList == bn.toList) = true := by rw [hee]; exact decide_eq_true hzy
                have HE : Hid (linesF s t = (6, [])) := Lib.hid (by
                  have hin : xn ∈ (t.take j).map (·.1) := List.mem_map.2 ⟨(zn, zv), HZM.out, hzy⟩
                  have e : txtE [] 0 t = 6 := by rw [HEj.out, HTA.out, if_neg (by rw [HGD.out]; decide), if_pos hin]
                  unfold linesF
                  rw [if_neg (by rw [HN.out]; exact H20.out), e, if_pos (by decide)])
                clear hee hzy
                go_wp2_with fail
                go_ret2
                exact linPost_no (below_then HB5.out HB9.out) HE.out
              · have hee2 : (bz.toList == bn.toList) = false := by rw [hee]; exact decide_eq_false hzy
                have HNn : Hid (xn ∉ ((t.take j).take (q + 1)).map (·.1)) := Lib.hid (by
                  rw [HZK.out, List.map_append, List.mem_append]
                  rintro (h | h)
                  · exact HNq.out h
                  · rw [List.map_singleton, List.mem_singleton] at h; exact hzy h.symm)
                clear hee hzy
                go_wp2_with fail
                go_roundw
                case rel => exact ⟨q + 1, by omega, by go_num, HB9, HNn⟩
                case measure => simp [intOf]; omega
            · obtain rfl : q = j := by omega
              have hin : xn ∉ (t.take q).map (·.1) := by
                have := HNq.out
                rwa [List.take_take, Nat.min_self] at this
              have HNX : Hid (txtE [] 0 t = txtE (t.take (q + 1)) (q + 1) (t.drop (q + 1))) := Lib.hid (by rw [HEj.out, HTA.out, if_neg (by rw [HGD.out]; decide), if_neg hin])
              have HOK : Hid (TxtOk (t.take (q + 1))) := Lib.hid (by
                rw [HTK.out]
                exact HOj.out.snoc hin HGD.out (show xv.length ≤ 4000000000 from Nat.le_trans HXS.out.2 (by decide)) (by rw [List.length_take]; have := H20.out; have := HN.out; omega))
              have HBn := Lib.hid (below_then HB5.out HBq.out)
              clear hin
              go_wp2_with fail
              go_roundw
              case rel => exact ⟨q + 1, by omega, by go_num, HBn, HOK, HNX⟩
              case measure => simp [intOf]; omega
      · have hjn : j = n := by omega
        have HTX : Hid (txtE [] 0 t = 0) := Lib.hid (by rw [HEj.out]; exact txtE_end (by rw [HN.out]; omega))
        have hTK : t.take j = t := List.take_of_length_le (by rw [HN.out]; omega)
        rw [hTK] at HOj
        have hb5 := below_new (Below.refl wr.heap.size wr) (.cells #[.int .i64 0] 3)
        have HB5 := Lib.hid (below_then HBj.out hb5)
        have HK5 := Lib.hid (Blk.new wr #[.int .i64 0] 3)
        have HIT : Hid (RIn (wr.alloc (.cells #[.int .i64 0] 3)).heap.size wr.heap.size A (macV t) (wr.alloc (.cells #[.int .i64 0] 3))) := Lib.hid ⟨HR.out.below HB5.out, fun hp g off hA => by
          obtain ⟨b', off', hA', hlt', _⟩ := HR.out.below HBj.out hp
          rw [hA] at hA'
          injection hA' with hA'
          injection hA' with h1 _ _
          subst h1
          exact ⟨by simp; omega, by omega⟩⟩
        have HCL := Lib.hid (rInc_any (At := A) (nt := n) (ct := c) (M := wr.heap.size) HOj.out HN.out (fun x hx => (HT.out x hx).2) (t.length + 1) [] s 0 none 0 0 (wr.alloc (.cells #[.int .i64 0] 3)) HIT.out ⟨fun h => absurd h (by simp), fun h => absurd h (by simp)⟩ rfl HK5.out (OpOk.nil t) HSL.out (by omega))
        rw [HBS.out] at HCL
        have HLOW := Lib.hid (show w.heap.size ≤ wr.heap.size from HBj.out.size)
        have k1 : ¬ (j : Int) < (n : Int) := by omega
        clear hjn hTK hb5
        generalize hR : readA t (t.length + 1) [] s 0 [] = R at HCL
        have HRE := Lib.hid hR
        clear hR
        go_wp2_with (go_at_call 67; refine HCL.out.mono ?_; rintro e w9 ⟨m9, A9, n9, c9, rfl, hk9, hb9, hn9, hown9, hm9⟩)
        go_ret2
        have HE : linesF s t = (R.1, R.2.2) := by
          unfold linesF
          rw [if_neg (by rw [HN.out]; exact H20.out), if_neg (by rw [HTX.out]; decide), HRE.out]
          by_cases hz : R.1 = 0
          · rw [if_neg (fun h => h hz), hz]
          · have h := readA_app t (t.length + 1) [] s 0 []
            rw [HRE.out] at h
            have h2 : R.2.2 = [] := by
              unfold behind at h
              rw [if_neg hz] at h
              rw [h]
            rw [if_pos hz, h2]
        exact ⟨A9, n9, c9, by rw [HE]; rfl, by rw [HE]; exact hn9, by rw [HE]; exact own_baseF hown9 (by simp; have := HLOW.out; omega), ButLo.toBelow HB5.out hb9 HLOW.out (by simp)⟩
end Go.Proofs.YtoandhhkmkgmaaaGreatDoor
/- slices.ContainsFunc at texts: one longer than 400 bytes. -/
namespace Go.Proofs.YtoandhhkmkgmaaaGreatDoor
open Go.RowKit

/-- Some text is longer than 400 bytes. -/
def longTx (l : List TxtT) : Bool := l.any fun x => decide (400 < x.2.length)
set_option maxHeartbeats 1000000 in
theorem longTxF_any (xn xv : List UInt8) (w : World) (hv : xv.length ≤ 9223372036854775807) :
    Calls Tryz.prog 27 #[.agg #[sv xn, sv xv]] w fun e w' => e = .returned (.bool (decide (400 < xv.length))) ∧ Below w.heap.size w w' := by
  obtain ⟨bn, hbn⟩ : ∃ bn, sv xn = .string bn := ⟨_, rfl⟩
  obtain ⟨bv, hbv⟩ : ∃ bv, sv xv = .string bv := ⟨_, rfl⟩
  have HS : Hid (bv.size = xv.length) := Lib.hid (by unfold sv at hbv; injection hbv with hbv; rw [← hbv]; rfl)
  have hsz : bv.size ≤ 9223372036854775807 := by rw [HS.out]; exact hv
  rw [hbn, hbv]
  have HB := Lib.hid (below_new (Below.refl w.heap.size w) (.cells #[.string bn, .string bv] 61))
  have y1 := (Blk.new w #[.string bn, .string bv] 61).cell (j := 1) rfl
  clear hbn hbv hv
  by_cases hl : 400 < bv.size
  · have hd : decide ((400 : Int) < (bv.size : Int)) = true := by simp; omega
    have HD : Hid (decide (400 < xv.length) = true) := Lib.hid (by rw [← HS.out]; simpa using hl)
    clear hl
    go_enter Tryz.func27, Tryz.ntmps27
    go_wp2_with fail
    go_ret
    exact ⟨ret_bool (by rw [HD.out]), HB.out⟩
  · have hd : decide ((400 : Int) < (bv.size : Int)) = false := by simp; omega
    have HD : Hid (decide (400 < xv.length) = false) := Lib.hid (by rw [← HS.out]; simpa using hl)
    clear hl
    go_enter Tryz.func27, Tryz.ntmps27
    go_wp2_with fail
    go_ret
    exact ⟨ret_bool (by rw [HD.out]), HB.out⟩
def LongTxI (l : List TxtT) (i : Int) : Prop := (longTx l = true → 0 ≤ i) ∧ (longTx l = false → i = -1)
set_option maxRecDepth 100000 in
set_option maxHeartbeats 1000000 in
theorem longTxI_any {A : Option Addr} {n c : Nat} (l : List TxtT) (w : World) (hr : Rd w A (macV l)) (hn : l.length = n) (hb : n ≤ 9223372036854775807) (hs : ∀ x ∈ l, x.2.length ≤ 9223372036854775807) :
    Calls Tryz.prog 63 #[.slice A n c, .func (.func 27) #[] #[]] w fun e w' => ∃ i : Int, e = .returned (.int .i64 i) ∧ LongTxI l i ∧ Below w.heap.size w w' := by
  have HR := Lib.hid hr
  have HN := Lib.hid hn
  have HS := Lib.hid hs
  clear hr hn hs
  go_enter Tryz.func63, Tryz.ntmps63
  go_wp2_with fail
  go_loopw [5, 8] (fun _ i wr => ∃ k : Nat, k ≤ n ∧ i = .int .i64 (k : Int) ∧ Hid (longTx (l.take k) = false) ∧ Hid (Below w.heap.size w wr)) (fun _ i _ => n - (intOf i).toNat)
  case atStart => exact ⟨0, by omega, rfl, Lib.hid rfl, Lib.hid (Below.refl _ _)⟩
  case round =>
    obtain ⟨k, hk, rfl, HL, HB⟩ := hrel
    by_cases hlt : k < n
    · obtain ⟨x, hx⟩ : ∃ x, l[k]? = some x := ⟨_, List.getElem?_eq_getElem (by rw [HN.out]; exact hlt)⟩
      obtain ⟨b, off, rfl, c0, c1⟩ := (HR.out.below HB.out).macs hx
      have HX := Lib.hid hx
      have HF := Lib.hid (longTxF_any x.1 x.2 wr (HS.out x (List.mem_of_getElem? hx)))
      have HTK : Hid (longTx (l.take (k + 1)) = (longTx (l.take k) || decide (400 < x.2.length))) := Lib.hid (by rw [takeS_any hx]; unfold longTx; rw [List.any_append]; simp)
      obtain ⟨xn, xv⟩ := x
      simp only [] at c0 c1 HF HTK
      have k1 : (k : Int) < (n : Int) := by omega
      clear hx
      cases hd : decide (400 < xv.length) with
      | true =>
        have HE : Hid (longTx l = true) := Lib.hid (by
          unfold longTx
          rw [List.any_eq_true]
          exact ⟨(xn, xv), List.mem_of_getElem? HX.out, hd⟩)
        rw [hd] at HF
        clear hd
        go_wp2_with fail
        refine HF.out.mono ?_
        rintro e w2 ⟨rfl, hb2⟩
        have HB2 := Lib.hid (below_then HB.out hb2)
        clear hb2
        go_wp2_with fail
        go_ret
        exact ⟨(k : Int), rfl, ⟨fun _ => by omega, fun h => by rw [HE.out] at h; cases h⟩, HB2.out⟩
      | false =>
        rw [hd, HL.out] at HTK
        rw [hd] at HF
        clear hd
        go_wp2_with fail
        refine HF.out.mono ?_
        rintro e w2 ⟨rfl, hb2⟩
        have HB2 := Lib.hid (below_then HB.out hb2)
        clear hb2
        go_wp2_with fail
        go_roundw
        case rel => exact ⟨k + 1, by omega, by go_num, HTK, HB2⟩
        case measure => simp [intOf]; omega
    · obtain rfl : k = n := by omega
      have HE : Hid (longTx l = false) := Lib.hid (by have := HL.out; rwa [← HN.out, List.take_length] at this)
      go_wp2_with fail
      go_ret
      exact ⟨-1, rfl, ⟨fun h => (by rw [HE.out] at h; cases h), fun _ => rfl⟩, HB.out⟩
set_option maxHeartbeats 1000000 in
theorem longTxC_any {A : Option Addr} {n c : Nat} (l : List TxtT) (w : World) (hr : Rd w A (macV l)) (hn : l.length = n) (hb : n ≤ 9223372036854775807) (hs : ∀ x ∈ l, x.2.length ≤ 9223372036854775807) :
    Calls Tryz.prog 26 #[.slice A n c, .func (.func 27) #[] #[]] w fun e w' => e = .returned (.bool (longTx l)) ∧ Below w.heap.size w w' := by
  have HI := Lib.hid (longTxI_any (c := c) l w hr hn hb hs)
  clear hr hn hb hs
  go_enter Tryz.func26, Tryz.ntmps26
  go_wp2_with fail
  refine HI.out.mono ?_
  rintro e w2 ⟨i, rfl, hi, hb2⟩
  have HB2 := Lib.hid hb2
  cases hl : longTx l with
  | true =>
    have HL := Lib.hid hl
    have hi0 := hi.1 hl
    have hd : decide (0 ≤ i) = true := by simpa using hi0
    clear hb2 hl hi
    go_wp2_with fail
    go_ret
    exact ⟨by rw [HL.out]; rfl, HB2.out⟩
  | false =>
    have HL := Lib.hid hl
    obtain rfl := hi.2 hl
    clear hb2 hl hi
    go_wp2_with fail
    go_ret
    exact ⟨by rw [HL.out]; rfl, HB2.out⟩
end Go.Proofs.YtoandhhkmkgmaaaGreatDoor
/- Contracts: slices.Equal at texts, macros, pairs of suffixes; the reference's SameTexts, SameRules; file.same; each at any two lists. No condition but the model's. -/
namespace Go.Proofs.YtoandhhkmkgmaaaGreatDoor
open Go.RowKit

def eqL {α : Type} [DecidableEq α] (a b : List α) : Bool := decide (a = b)
theorem eqL_len {α : Type} [DecidableEq α] {a b : List α} (h : a.length ≠ b.length) : eqL a b = false := decide_eq_false (fun e => h (by rw [e]))
theorem eqL_at {α : Type} [DecidableEq α] {a b : List α} {k : Nat} {x y : α} (h1 : a[k]? = some x) (h2 : b[k]? = some y) (h : x ≠ y) : eqL a b = false := decide_eq_false (fun e => h (by rw [e, h2] at h1; injection h1 with h1; exact h1.symm))
theorem eqL_take {α : Type} [DecidableEq α] {a b : List α} {k : Nat} (ha : a.length ≤ k) (hb : b.length ≤ k) (h : a.take k = b.take k) : eqL a b = true := decide_eq_true (by rwa [List.take_of_length_le ha, List.take_of_length_le hb] at h)
theorem take_step {α : Type} {a b : List α} {k : Nat} {x y : α} (h1 : a[k]? = some x) (h2 : b[k]? = some y) (h : x = y) (ht : a.take k = b.take k) : a.take (k + 1) = b.take (k + 1) := by
  rw [List.take_add_one, List.take_add_one, h1, h2, ht, h]
set_option maxRecDepth 100000 in
set_option maxHeartbeats 1000000 in
theorem slEqS_anyD {A1 A2 : Option Addr} {n1 n2 c1 c2 : Nat} (l1 l2 : List (List UInt8)) (w : World) (h1 : Rd w A1 (l1.map sv)) (h2 : Rd w A2 (l2.map sv)) (hn1 : l1.length = n1) (hn2 : l2.length = n2) (hb1 : n1 ≤ 9223372036854775807) (hb2 : n2 ≤ 9223372036854775807) :
    Calls Tryz.prog 15 #[.slice A1 n1 c1, .slice A2 n2 c2] w fun e w' => e = .returned (.bool (eqL l1 l2)) ∧ ∃ q, w' = w.drewN q := by
  have H1 := Lib.hid h1
  have H2 := Lib.hid h2
  have N1 := Lib.hid hn1
  have N2 := Lib.hid hn2
  by_cases hne : n1 = n2
  · subst hne
    have hz : ((n1 : Int) != (n1 : Int)) = false := by simp
    clear h1 h2 hn1 hn2
    go_enter Tryz.func15, Tryz.ntmps15
    go_wp2_with fail
    go_loopw [5, 13] (fun _ i wr => ∃ k q : Nat, k ≤ n1 ∧ i = .int .i64 (k : Int) ∧ wr = w.drewN q ∧ Hid (l1.take k = l2.take k)) (fun _ i _ => n1 - (intOf i).toNat)
    case atStart => exact ⟨0, 0, by omega, rfl, rfl, Lib.hid rfl⟩
    case round =>
      obtain ⟨k, q, hk, rfl, rfl, HT⟩ := hrel
      by_cases hlt : k < n1
      · obtain ⟨x, hx⟩ : ∃ x, l1[k]? = some x := ⟨_, List.getElem?_eq_getElem (by rw [N1.out]; exact hlt)⟩
        obtain ⟨y, hy⟩ : ∃ y, l2[k]? = some y := ⟨_, List.getElem?_eq_getElem (by rw [N2.out]; exact hlt)⟩
        obtain ⟨b1, o1, rfl, e1⟩ := H1.out.scell hx
        obtain ⟨b2, o2, rfl, e2⟩ := H2.out.scell hy
        have HX := Lib.hid hx
        have HY := Lib.hid hy
        have hq := eq_sv x y
        generalize (⟨x.toArray⟩ : ByteArray) = bx at e1 hq
        generalize (⟨y.toArray⟩ : ByteArray) = by' at e2 hq
        have k0 : (0 : Int) ≤ (k : Int) := by omega
        have k1 : (k : Int) < (n1 : Int) := by omega
        clear hx hy
        by_cases he : x = y
        · have g1 : (bx.toList == by'.toList) = true := by rw [hq]; simp [he]
          have HE := Lib.hid he
          clear he hq
          go_wp2_with fail
          go_quiet (fail)
          go_wp2_with fail
          go_roundw
          case rel => exact ⟨k + 1, _, by omega, by go_num, rfl, Lib.hid (take_step HX.out HY.out HE.out HT.out)⟩
          case measure => simp [intOf]; omega
        · have g1 : (bx.toList == by'.toList) = false := by rw [hq]; simp [he]
          have HE := Lib.hid (eqL_at HX.out HY.out he)
          clear he hq
          go_wp2_with fail
          go_quiet (fail)
          go_wp2_with fail
          go_ret
          exact ⟨by rw [HE.out]; rfl, _, World.drewN_drewN _ _ _⟩
      · obtain rfl : k = n1 := by omega
        have HE := Lib.hid (eqL_take (by rw [N1.out]; exact Nat.le_refl _) (by rw [N2.out]; exact Nat.le_refl _) HT.out)
        go_wp2_with fail
        go_ret
        exact ⟨by rw [HE.out]; rfl, _, rfl⟩
  · have hz : ((n1 : Int) != (n2 : Int)) = true := by simp; omega
    have HE : Hid (eqL l1 l2 = false) := Lib.hid (eqL_len (by rw [hn1, hn2]; exact hne))
    clear h1 h2 hn1 hn2 hne
    go_enter Tryz.func15, Tryz.ntmps15
    go_wp2_with fail
    go_ret
    exact ⟨by rw [HE.out]; rfl, 0, rfl⟩
theorem slEqS_any {A1 A2 : Option Addr} {n1 n2 c1 c2 : Nat} (l1 l2 : List (List UInt8)) (w : World) (h1 : Rd w A1 (l1.map sv)) (h2 : Rd w A2 (l2.map sv)) (hn1 : l1.length = n1) (hn2 : l2.length = n2) (hb1 : n1 ≤ 9223372036854775807) (hb2 : n2 ≤ 9223372036854775807) :
    Calls Tryz.prog 15 #[.slice A1 n1 c1, .slice A2 n2 c2] w fun e w' => e = .returned (.bool (eqL l1 l2)) ∧ Below w.heap.size w w' :=
  (slEqS_anyD l1 l2 w h1 h2 hn1 hn2 hb1 hb2).mono fun e w' ⟨h1, q, h2⟩ => ⟨h1, by rw [h2]; exact below_of_drewN _ _⟩
set_option maxRecDepth 100000 in
set_option maxHeartbeats 1000000 in
theorem sameTextsG_anyD {A1 A2 : Option Addr} {n1 n2 c1 c2 : Nat} (l1 l2 : List (List UInt8)) (w : World) (h1 : Rd w A1 (l1.map sv)) (h2 : Rd w A2 (l2.map sv)) (hn1 : l1.length = n1) (hn2 : l2.length = n2) (hb1 : n1 ≤ 9223372036854775807) (hb2 : n2 ≤ 9223372036854775807) :
    Calls Tryz.prog 45 #[.slice A1 n1 c1, .slice A2 n2 c2] w fun e w' => e = .returned (.bool (eqL l1 l2)) ∧ ∃ q, w' = w.drewN q := by
  have H1 := Lib.hid h1
  have H2 := Lib.hid h2
  have N1 := Lib.hid hn1
  have N2 := Lib.hid hn2
  by_cases hne : n1 = n2
  · subst hne
    have hz : ((n1 : Int) != (n1 : Int)) = false := by simp
    clear h1 h2 hn1 hn2
    go_enter Tryz.func45, Tryz.ntmps45
    go_wp2_with fail
    go_loopw [5, 13] (fun _ i wr => ∃ k q : Nat, k ≤ n1 ∧ i = .int .i64 (k : Int) ∧ wr = w.drewN q ∧ Hid (l1.take k = l2.take k)) (fun _ i _ => n1 - (intOf i).toNat)
    case atStart => exact ⟨0, 0, by omega, rfl, rfl, Lib.hid rfl⟩
    case round =>
      obtain ⟨k, q, hk, rfl, rfl, HT⟩ := hrel
      by_cases hlt : k < n1
      · obtain ⟨x, hx⟩ : ∃ x, l1[k]? = some x := ⟨_, List.getElem?_eq_getElem (by rw [N1.out]; exact hlt)⟩
        obtain ⟨y, hy⟩ : ∃ y, l2[k]? = some y := ⟨_, List.getElem?_eq_getElem (by rw [N2.out]; exact hlt)⟩
        obtain ⟨b1, o1, rfl, e1⟩ := H1.out.scell hx
        obtain ⟨b2, o2, rfl, e2⟩ := H2.out.scell hy
        have HX := Lib.hid hx
        have HY := Lib.hid hy
        have hq := eq_sv x y
        generalize (⟨x.toArray⟩ : ByteArray) = bx at e1 hq
        generalize (⟨y.toArray⟩ : ByteArray) = by' at e2 hq
        have k0 : (0 : Int) ≤ (k : Int) := by omega
        have k1 : (k : Int) < (n1 : Int) := by omega
        clear hx hy
        by_cases he : x = y
        · have g1 : (bx.toList == by'.toList) = true := by rw [hq]; simp [he]
          have HE := Lib.hid he
          clear he hq
          go_wp2_with fail
          go_quiet (fail)
          go_wp2_with fail
          go_roundw
          case rel => exact ⟨k + 1, _, by omega, by go_num, rfl, Lib.hid (take_step HX.out HY.out HE.out HT.out)⟩
          case measure => simp [intOf]; omega
        · have g1 : (bx.toList == by'.toList) = false := by rw [hq]; simp [he]
          have HE := Lib.hid (eqL_at HX.out HY.out he)
          clear he hq
          go_wp2_with fail
          go_quiet (fail)
          go_wp2_with fail
          go_ret
          exact ⟨by rw [HE.out]; rfl, _, World.drewN_drewN _ _ _⟩
      · obtain rfl : k = n1 := by omega
        have HE := Lib.hid (eqL_take (by rw [N1.out]; exact Nat.le_refl _) (by rw [N2.out]; exact Nat.le_refl _) HT.out)
        go_wp2_with fail
        go_ret
        exact ⟨by rw [HE.out]; rfl, _, rfl⟩
  · have hz : ((n1 : Int) != (n2 : Int)) = true := by simp; omega
    have HE : Hid (eqL l1 l2 = false) := Lib.hid (eqL_len (by rw [hn1, hn2]; exact hne))
    clear h1 h2 hn1 hn2 hne
    go_enter Tryz.func45, Tryz.ntmps45
    go_wp2_with fail
    go_ret
    exact ⟨by rw [HE.out]; rfl, 0, rfl⟩
theorem sameTextsG_any {A1 A2 : Option Addr} {n1 n2 c1 c2 : Nat} (l1 l2 : List (List UInt8)) (w : World) (h1 : Rd w A1 (l1.map sv)) (h2 : Rd w A2 (l2.map sv)) (hn1 : l1.length = n1) (hn2 : l2.length = n2) (hb1 : n1 ≤ 9223372036854775807) (hb2 : n2 ≤ 9223372036854775807) :
    Calls Tryz.prog 45 #[.slice A1 n1 c1, .slice A2 n2 c2] w fun e w' => e = .returned (.bool (eqL l1 l2)) ∧ Below w.heap.size w w' :=
  (sameTextsG_anyD l1 l2 w h1 h2 hn1 hn2 hb1 hb2).mono fun e w' ⟨h1, q, h2⟩ => ⟨h1, by rw [h2]; exact below_of_drewN _ _⟩
set_option maxRecDepth 100000 in
set_option maxHeartbeats 2000000 in
theorem slEqM_any {A1 A2 : Option Addr} {n1 n2 c1 c2 : Nat} (l1 l2 : List (List UInt8 × List UInt8)) (w : World) (h1 : Rd w A1 (macV l1)) (h2 : Rd w A2 (macV l2)) (hn1 : l1.length = n1) (hn2 : l2.length = n2) (hb1 : n1 ≤ 9223372036854775807) (hb2 : n2 ≤ 9223372036854775807) :
    Calls Tryz.prog 96 #[.slice A1 n1 c1, .slice A2 n2 c2] w fun e w' => e = .returned (.bool (eqL l1 l2)) ∧ Below w.heap.size w w' := by
  have H1 := Lib.hid h1
  have H2 := Lib.hid h2
  have N1 := Lib.hid hn1
  have N2 := Lib.hid hn2
  by_cases hne : n1 = n2
  · subst hne
    have hz : ((n1 : Int) != (n1 : Int)) = false := by simp
    clear h1 h2 hn1 hn2
    go_enter Tryz.func96, Tryz.ntmps96
    go_wp2_with fail
    go_loopw [5, 13] (fun _ i wr => ∃ k q : Nat, k ≤ n1 ∧ i = .int .i64 (k : Int) ∧ wr = w.drewN q ∧ Hid (l1.take k = l2.take k)) (fun _ i _ => n1 - (intOf i).toNat)
    case atStart => exact ⟨0, 0, by omega, rfl, rfl, Lib.hid rfl⟩
    case round =>
      obtain ⟨k, q, hk, rfl, rfl, HT⟩ := hrel
      by_cases hlt : k < n1
      · obtain ⟨x, hx⟩ : ∃ x, l1[k]? = some x := ⟨_, List.getElem?_eq_getElem (by rw [N1.out]; exact hlt)⟩
        obtain ⟨y, hy⟩ : ∃ y, l2[k]? = some y := ⟨_, List.getElem?_eq_getElem (by rw [N2.out]; exact hlt)⟩
        obtain ⟨b1, o1, rfl, e1, e3⟩ := H1.out.macs hx
        obtain ⟨b2, o2, rfl, e2, e4⟩ := H2.out.macs hy
        have HX := Lib.hid hx
        have HY := Lib.hid hy
        obtain ⟨xa, xb⟩ := x
        obtain ⟨ya, yb⟩ := y
        dsimp only at e1 e2 e3 e4
        unfold sv at e1 e2 e3 e4
        have hq := eq_sv xa ya
        have hp := eq_sv xb yb
        generalize (⟨xa.toArray⟩ : ByteArray) = bxa at e1 hq
        generalize (⟨ya.toArray⟩ : ByteArray) = bya at e2 hq
        generalize (⟨xb.toArray⟩ : ByteArray) = bxb at e3 hp
        generalize (⟨yb.toArray⟩ : ByteArray) = byb at e4 hp
        have k0 : (0 : Int) ≤ (k : Int) := by omega
        have k1 : (k : Int) < (n1 : Int) := by omega
        clear hx hy
        by_cases he : xa = ya
        · have g1 : (bxa.toList == bya.toList) = true := by rw [hq]; simp [he]
          by_cases he2 : xb = yb
          · have g2 : (bxb.toList == byb.toList) = true := by rw [hp]; simp [he2]
            have HE : Hid ((xa, xb) = (ya, yb)) := Lib.hid (by rw [he, he2])
            clear he he2 hq hp
            go_wp2_with fail
            go_quiet (fail)
            go_wp2_with fail
            go_roundw
            case rel => exact ⟨k + 1, _, by omega, by go_num, rfl, Lib.hid (take_step HX.out HY.out HE.out HT.out)⟩
            case measure => simp [intOf]; omega
          · have g2 : (bxb.toList == byb.toList) = false := by rw [hp]; simp [he2]
            have HE := Lib.hid (eqL_at HX.out HY.out (fun e => he2 (by injection e)))
            clear he he2 hq hp
            go_wp2_with fail
            go_quiet (fail)
            go_wp2_with fail
            go_ret
            exact ⟨by rw [HE.out]; rfl, below_drewN (below_of_drewN _ _) _⟩
        · have g1 : (bxa.toList == bya.toList) = false := by rw [hq]; simp [he]
          have HE := Lib.hid (eqL_at HX.out HY.out (fun e => he (by injection e)))
          clear he hq hp
          go_wp2_with fail
          go_quiet (fail)
          go_wp2_with fail
          go_ret
          exact ⟨by rw [HE.out]; rfl, below_drewN (below_of_drewN _ _) _⟩
      · obtain rfl : k = n1 := by omega
        have HE := Lib.hid (eqL_take (by rw [N1.out]; exact Nat.le_refl _) (by rw [N2.out]; exact Nat.le_refl _) HT.out)
        go_wp2_with fail
        go_ret
        exact ⟨by rw [HE.out]; rfl, below_of_drewN _ _⟩
  · have hz : ((n1 : Int) != (n2 : Int)) = true := by simp; omega
    have HE : Hid (eqL l1 l2 = false) := Lib.hid (eqL_len (by rw [hn1, hn2]; exact hne))
    clear h1 h2 hn1 hn2 hne
    go_enter Tryz.func96, Tryz.ntmps96
    go_wp2_with fail
    go_ret
    exact ⟨by rw [HE.out]; rfl, Below.refl _ _⟩
set_option maxRecDepth 100000 in
set_option maxHeartbeats 2000000 in
theorem slEqI_any {A1 A2 : Option Addr} {n1 n2 c1 c2 : Nat} (l1 l2 : List (List UInt8 × List UInt8)) (w : World) (h1 : Rd w A1 (macV l1)) (h2 : Rd w A2 (macV l2)) (hn1 : l1.length = n1) (hn2 : l2.length = n2) (hb1 : n1 ≤ 9223372036854775807) (hb2 : n2 ≤ 9223372036854775807) :
    Calls Tryz.prog 97 #[.slice A1 n1 c1, .slice A2 n2 c2] w fun e w' => e = .returned (.bool (eqL l1 l2)) ∧ Below w.heap.size w w' := by
  have H1 := Lib.hid h1
  have H2 := Lib.hid h2
  have N1 := Lib.hid hn1
  have N2 := Lib.hid hn2
  by_cases hne : n1 = n2
  · subst hne
    have hz : ((n1 : Int) != (n1 : Int)) = false := by simp
    clear h1 h2 hn1 hn2
    go_enter Tryz.func97, Tryz.ntmps97
    go_wp2_with fail
    go_loopw [5, 13] (fun _ i wr => ∃ k q : Nat, k ≤ n1 ∧ i = .int .i64 (k : Int) ∧ wr = w.drewN q ∧ Hid (l1.take k = l2.take k)) (fun _ i _ => n1 - (intOf i).toNat)
    case atStart => exact ⟨0, 0, by omega, rfl, rfl, Lib.hid rfl⟩
    case round =>
      obtain ⟨k, q, hk, rfl, rfl, HT⟩ := hrel
      by_cases hlt : k < n1
      · obtain ⟨x, hx⟩ : ∃ x, l1[k]? = some x := ⟨_, List.getElem?_eq_getElem (by rw [N1.out]; exact hlt)⟩
        obtain ⟨y, hy⟩ : ∃ y, l2[k]? = some y := ⟨_, List.getElem?_eq_getElem (by rw [N2.out]; exact hlt)⟩
        obtain ⟨b1, o1, rfl, e1, e3⟩ := H1.out.macs hx
        obtain ⟨b2, o2, rfl, e2, e4⟩ := H2.out.macs hy
        have HX := Lib.hid hx
        have HY := Lib.hid hy
        obtain ⟨xa, xb⟩ := x
        obtain ⟨ya, yb⟩ := y
        dsimp only at e1 e2 e3 e4
        unfold sv at e1 e2 e3 e4
        have hq := eq_sv xa ya
        have hp := eq_sv xb yb
        generalize (⟨xa.toArray⟩ : ByteArray) = bxa at e1 hq
        generalize (⟨ya.toArray⟩ : ByteArray) = bya at e2 hq
        generalize (⟨xb.toArray⟩ : ByteArray) = bxb at e3 hp
        generalize (⟨yb.toArray⟩ : ByteArray) = byb at e4 hp
        have k0 : (0 : Int) ≤ (k : Int) := by omega
        have k1 : (k : Int) < (n1 : Int) := by omega
        clear hx hy
        by_cases he : xa = ya
        · have g1 : (bxa.toList == bya.toList) = true := by rw [hq]; simp [he]
          by_cases he2 : xb = yb
          · have g2 : (bxb.toList == byb.toList) = true := by rw [hp]; simp [he2]
            have HE : Hid ((xa, xb) = (ya, yb)) := Lib.hid (by rw [he, he2])
            clear he he2 hq hp
            go_wp2_with fail
            go_quiet (fail)
            go_wp2_with fail
            go_roundw
            case rel => exact ⟨k + 1, _, by omega, by go_num, rfl, Lib.hid (take_step HX.out HY.out HE.out HT.out)⟩
            case measure => simp [intOf]; omega
          · have g2 : (bxb.toList == byb.toList) = false := by rw [hp]; simp [he2]
            have HE := Lib.hid (eqL_at HX.out HY.out (fun e => he2 (by injection e)))
            clear he he2 hq hp
            go_wp2_with fail
            go_quiet (fail)
            go_wp2_with fail
            go_ret
            exact ⟨by rw [HE.out]; rfl, below_drewN (below_of_drewN _ _) _⟩
        · have g1 : (bxa.toList == bya.toList) = false := by rw [hq]; simp [he]
          have HE := Lib.hid (eqL_at HX.out HY.out (fun e => he (by injection e)))
          clear he hq hp
          go_wp2_with fail
          go_quiet (fail)
          go_wp2_with fail
          go_ret
          exact ⟨by rw [HE.out]; rfl, below_drewN (below_of_drewN _ _) _⟩
      · obtain rfl : k = n1 := by omega
        have HE := Lib.hid (eqL_take (by rw [N1.out]; exact Nat.le_refl _) (by rw [N2.out]; exact Nat.le_refl _) HT.out)
        go_wp2_with fail
        go_ret
        exact ⟨by rw [HE.out]; rfl, below_of_drewN _ _⟩
  · have hz : ((n1 : Int) != (n2 : Int)) = true := by simp; omega
    have HE : Hid (eqL l1 l2 = false) := Lib.hid (eqL_len (by rw [hn1, hn2]; exact hne))
    clear h1 h2 hn1 hn2 hne
    go_enter Tryz.func97, Tryz.ntmps97
    go_wp2_with fail
    go_ret
    exact ⟨by rw [HE.out]; rfl, Below.refl _ _⟩
end Go.Proofs.YtoandhhkmkgmaaaGreatDoor
/- Contracts: file.same's way to look at two rules; slices.EqualFunc at rules; file.same. No condition but the model's. -/
namespace Go.Proofs.YtoandhhkmkgmaaaGreatDoor
open Go.RowKit

def eqR (a b : RuleT) : Bool := eqL a.1 b.1 && eqL a.2 b.2
theorem eqR_iff (a b : RuleT) : eqR a b = true ↔ a = b := by
  unfold eqR eqL
  rw [Bool.and_eq_true, decide_eq_true_iff, decide_eq_true_iff]
  exact ⟨fun h => Prod.ext h.1 h.2, fun h => by rw [h]; exact ⟨rfl, rfl⟩⟩
def eqF (f g : FileT) : Bool := eqL f.mac g.mac && eqL f.pho g.pho && eqL f.inf g.inf && eqL f.rul g.rul
/-- file.Check: the error. -/
noncomputable def chkF (f : FileT) : Nat := if (fileP (linesP f)).1 = 0 ∧ eqF f (fileP (linesP f)).2.2 = false then 3 else (fileP (linesP f)).1
theorem rulesOf_at {L : List RSlot} {k : Nat} {x : RSlot} (h : L[k]? = some x) : (rulesOf L)[k]? = some x.2.2 := by unfold rulesOf; rw [List.getElem?_map, h]; rfl
structure SzL (f : FileT) : Prop where
  mac : f.mac.length ≤ 9223372036854775807
  pho : f.pho.length ≤ 9223372036854775807
  inf : f.inf.length ≤ 9223372036854775807
  rul : f.rul.length ≤ 9223372036854775807
/-- Two files, as they come in. -/
structure TwoF (A0 A1 A2 A3 B0 B1 B2 B3 : Option Addr) (n0 n1 n2 n3 m0 m1 m2 m3 : Nat) (f g : FileT) (L M : List RSlot) (w : World) : Prop where
  a : FileRd A0 A1 A2 A3 f L w
  b : FileRd B0 B1 B2 B3 g M w
  la : SzL f
  lb : SzL g
  e0 : f.mac.length = n0
  e1 : f.pho.length = n1
  e2 : f.inf.length = n2
  e3 : L.length = n3
  g0 : g.mac.length = m0
  g1 : g.pho.length = m1
  g2 : g.inf.length = m2
  g3 : M.length = m3
end Go.Proofs.YtoandhhkmkgmaaaGreatDoor
/- Contracts: the reference's SameRules and SameFile at any two. No condition but the model's. -/
namespace Go.Proofs.YtoandhhkmkgmaaaGreatDoor
open Go.RowKit

set_option maxRecDepth 100000 in
set_option maxHeartbeats 4000000 in
theorem sameRulesG_anyD {A1 A2 : Option Addr} {n1 n2 c1 c2 : Nat} (L1 L2 : List RSlot) (w : World) (h1 : RsRd A1 L1 w) (h2 : RsRd A2 L2 w) (hn1 : L1.length = n1) (hn2 : L2.length = n2) (hb1 : n1 ≤ 9223372036854775807) (hb2 : n2 ≤ 9223372036854775807) :
    Calls Tryz.prog 46 #[.slice A1 n1 c1, .slice A2 n2 c2] w fun e w' => e = .returned (.bool (eqL (rulesOf L1) (rulesOf L2))) ∧ ∃ q, w' = w.drewN q := by
  have H1 := Lib.hid h1
  have H2 := Lib.hid h2
  have N1 := Lib.hid hn1
  have N2 := Lib.hid hn2
  have hl1 : (rulesOf L1).length = n1 := by unfold rulesOf; simp [hn1]
  have hl2 : (rulesOf L2).length = n2 := by unfold rulesOf; simp [hn2]
  have M1 := Lib.hid hl1
  have M2 := Lib.hid hl2
  by_cases hne : n1 = n2
  · subst hne
    have hz : ((n1 : Int) != (n1 : Int)) = false := by simp
    clear h1 h2 hn1 hn2 hl1 hl2
    go_enter Tryz.func46, Tryz.ntmps46
    go_wp2_with fail
    go_loopw [5, 13] (fun _ i wr => ∃ k : Nat, k ≤ n1 ∧ i = .int .i64 (k : Int) ∧ Hid (∃ q, wr = w.drewN q) ∧ Hid ((rulesOf L1).take k = (rulesOf L2).take k)) (fun _ i _ => n1 - (intOf i).toNat)
    case atStart => exact ⟨0, by omega, rfl, Lib.hid ⟨0, rfl⟩, Lib.hid rfl⟩
    case round =>
      obtain ⟨k, hk, rfl, HB, HT⟩ := hrel
      have HBL : Hid (Below w.heap.size w wr) := Lib.hid (by obtain ⟨q, h⟩ := HB.out; rw [h]; exact below_of_drewN _ _)
      by_cases hlt : k < n1
      · obtain ⟨x, hx⟩ : ∃ x, L1[k]? = some x := ⟨_, List.getElem?_eq_getElem (by rw [N1.out]; exact hlt)⟩
        obtain ⟨y, hy⟩ : ∃ y, L2[k]? = some y := ⟨_, List.getElem?_eq_getElem (by rw [N2.out]; exact hlt)⟩
        have HXX := Lib.hid (rulesOf_at hx)
        have HYY := Lib.hid (rulesOf_at hy)
        have HX := Lib.hid ((H1.out.each x (List.mem_of_getElem? hx)).below HBL.out)
        have HY := Lib.hid ((H2.out.each y (List.mem_of_getElem? hy)).below HBL.out)
        obtain ⟨b1, o1, rfl, a1, a2⟩ := (H1.out.rd.below HBL.out).two hx
        obtain ⟨b2, o2, rfl, d1, d2⟩ := (H2.out.rd.below HBL.out).two hy
        obtain ⟨⟨X1, xc1⟩, ⟨X2, xc2⟩, r⟩ := x
        obtain ⟨⟨Y1, yc1⟩, ⟨Y2, yc2⟩, s⟩ := y
        simp only [] at HXX HYY
        have hcap : 2 * k = k * 2 := by omega
        rw [hcap] at a1 a2 d1 d2
        simp only [rsT, rsN] at a1 a2 d1 d2
        have CT := Lib.hid (fun n => sameTextsG_anyD (c1 := xc1) (c2 := yc1) r.1 s.1 (wr.drewN n) (HX.out.t.drewN n) (HY.out.t.drewN n) rfl rfl HX.out.tb HY.out.tb)
        have CN := Lib.hid (fun n => sameTextsG_anyD (c1 := xc2) (c2 := yc2) r.2 s.2 (wr.drewN n) (HX.out.n.drewN n) (HY.out.n.drewN n) rfl rfl HX.out.nb HY.out.nb)
        have HER : Hid (eqR r s = (eqL r.1 s.1 && eqL r.2 s.2)) := Lib.hid rfl
        clear hx hy hcap HX HY
        generalize r.1.length = u1 at *
        generalize r.2.length = u2 at *
        generalize s.1.length = u3 at *
        generalize s.2.length = u4 at *
        have k0 : (0 : Int) ≤ (k : Int) := by omega
        have k1 : (k : Int) < (n1 : Int) := by omega
        cases hT : eqL r.1 s.1 with
        | false =>
          rw [hT] at CT HER
          have HE := Lib.hid (eqL_at HXX.out HYY.out (fun e => by rw [(eqR_iff _ _).2 e] at HER; exact absurd HER.out (by simp)))
          clear hT HER CN
          go_wp2_with fail
          go_quiet ((go_at_call 45; (with_reducible exact Calls.quiet_of (CT.out _))))
          go_wp2_with fail
          go_ret
          exact ⟨by rw [HE.out]; rfl, by obtain ⟨q, h⟩ := HB.out; rw [h]; exact ⟨_, World.drewN_drewN _ _ _⟩⟩
        | true =>
          rw [hT] at CT HER
          cases hN : eqL r.2 s.2 with
          | false =>
            rw [hN] at CN HER
            have HE := Lib.hid (eqL_at HXX.out HYY.out (fun e => by rw [(eqR_iff _ _).2 e] at HER; exact absurd HER.out (by simp)))
            clear hT hN HER
            go_wp2_with fail
            go_quiet ((first | (go_at_call 45; (with_reducible exact Calls.quiet_of (CT.out _))) | (go_at_call 45; (with_reducible exact Calls.quiet_of (CN.out _)))))
            go_wp2_with fail
            go_ret
            exact ⟨by rw [HE.out]; rfl, by obtain ⟨q, h⟩ := HB.out; rw [h]; exact ⟨_, World.drewN_drewN _ _ _⟩⟩
          | true =>
            rw [hN] at CN HER
            have HE := Lib.hid ((eqR_iff _ _).1 HER.out)
            clear hT hN HER
            go_wp2_with fail
            go_quiet ((first | (go_at_call 45; (with_reducible exact Calls.quiet_of (CT.out _))) | (go_at_call 45; (with_reducible exact Calls.quiet_of (CN.out _)))))
            go_wp2_with fail
            go_roundw
            case rel => exact ⟨k + 1, by omega, by go_num, Lib.hid (by obtain ⟨q, h⟩ := HB.out; rw [h]; exact ⟨_, World.drewN_drewN _ _ _⟩), Lib.hid (take_step HXX.out HYY.out HE.out HT.out)⟩
            case measure => simp [intOf]; omega
      · obtain rfl : k = n1 := by omega
        have HE := Lib.hid (eqL_take (by rw [M1.out]; exact Nat.le_refl _) (by rw [M2.out]; exact Nat.le_refl _) HT.out)
        go_wp2_with fail
        go_ret
        exact ⟨by rw [HE.out]; rfl, HB.out⟩
  · have hz : ((n1 : Int) != (n2 : Int)) = true := by simp; omega
    have HE : Hid (eqL (rulesOf L1) (rulesOf L2) = false) := Lib.hid (eqL_len (by rw [hl1, hl2]; exact hne))
    clear h1 h2 hn1 hn2 hne hl1 hl2
    go_enter Tryz.func46, Tryz.ntmps46
    go_wp2_with fail
    go_ret
    exact ⟨by rw [HE.out]; rfl, 0, rfl⟩
theorem sameRulesG_any {A1 A2 : Option Addr} {n1 n2 c1 c2 : Nat} (L1 L2 : List RSlot) (w : World) (h1 : RsRd A1 L1 w) (h2 : RsRd A2 L2 w) (hn1 : L1.length = n1) (hn2 : L2.length = n2) (hb1 : n1 ≤ 9223372036854775807) (hb2 : n2 ≤ 9223372036854775807) :
    Calls Tryz.prog 46 #[.slice A1 n1 c1, .slice A2 n2 c2] w fun e w' => e = .returned (.bool (eqL (rulesOf L1) (rulesOf L2))) ∧ Below w.heap.size w w' :=
  (sameRulesG_anyD L1 L2 w h1 h2 hn1 hn2 hb1 hb2).mono fun e w' ⟨h1, q, h2⟩ => ⟨h1, by rw [h2]; exact below_of_drewN _ _⟩
section
variable {A0 A1 A2 A3 B0 B1 B2 B3 : Option Addr} {n0 n1 n2 n3 c0 c1 c2 c3 m0 m1 m2 m3 d0 d1 d2 d3 : Nat} (f g : FileT) (L M : List RSlot) (w : World) (h : TwoF A0 A1 A2 A3 B0 B1 B2 B3 n0 n1 n2 n3 m0 m1 m2 m3 f g L M w)
include h
set_option maxRecDepth 100000 in
set_option maxHeartbeats 8000000 in
theorem rSameFile_any : Calls Tryz.prog 11 #[.agg #[.slice A0 n0 c0, .slice A1 n1 c1, .slice A2 n2 c2, .slice A3 n3 c3], .agg #[.slice B0 m0 d0, .slice B1 m1 d1, .slice B2 m2 d2, .slice B3 m3 d3]] w fun e w' => e = .returned (.bool (eqF f g)) ∧ Below w.heap.size w w' := by
  have H := Lib.hid h
  have CP := Lib.hid (fun W (hW : Below w.heap.size w W) => sameTextsG_any (c1 := c1) (c2 := d1) f.pho g.pho W (h.a.pho.below hW) (h.b.pho.below hW) h.e1 h.g1 (by rw [← h.e1]; exact h.la.pho) (by rw [← h.g1]; exact h.lb.pho))
  have CR := Lib.hid (fun W (hW : Below w.heap.size w W) => sameRulesG_any (c1 := c3) (c2 := d3) L M W (h.a.rul.below hW) (h.b.rul.below hW) h.e3 h.g3 (by rw [← h.e3, ← h.a.len]; exact h.la.rul) (by rw [← h.g3, ← h.b.len]; exact h.lb.rul))
  have HER : Hid (eqF f g = (eqL f.mac g.mac && eqL f.pho g.pho && eqL f.inf g.inf && eqL (rulesOf L) (rulesOf M))) := Lib.hid (by unfold eqF; rw [h.a.eq, h.b.eq])
  have HNM : Hid (n0 ≠ m0 → eqL f.mac g.mac = false) := Lib.hid (fun hn => eqL_len (by rw [h.e0, h.g0]; exact hn))
  have HNI : Hid (n2 ≠ m2 → eqL f.inf g.inf = false) := Lib.hid (fun hn => eqL_len (by rw [h.e2, h.g2]; exact hn))
  have E0 := Lib.hid h.e0
  have E2 := Lib.hid h.e2
  have G0 := Lib.hid h.g0
  have G2 := Lib.hid h.g2
  have bb0 : n0 ≤ 9223372036854775807 := by rw [← h.e0]; exact h.la.mac
  have bb2 : n2 ≤ 9223372036854775807 := by rw [← h.e2]; exact h.la.inf
  have bb1 : n1 ≤ 9223372036854775807 := by rw [← h.e1]; exact h.la.pho
  have HB0 := Lib.hid (below_new (Below.refl w.heap.size w) (.cells #[.slice A0 n0 c0, .slice A1 n1 c1, .slice A2 n2 c2, .slice A3 n3 c3] 27))
  have HK0 := Lib.hid (Blk.new w #[.slice A0 n0 c0, .slice A1 n1 c1, .slice A2 n2 c2, .slice A3 n3 c3] 27)
  have HSZ : Hid ((w.alloc (.cells #[.slice A0 n0 c0, .slice A1 n1 c1, .slice A2 n2 c2, .slice A3 n3 c3] 27)).heap.size = w.heap.size + 1) := Lib.hid (by simp)
  have hb1 := below_new (Below.refl (w.alloc (.cells #[.slice A0 n0 c0, .slice A1 n1 c1, .slice A2 n2 c2, .slice A3 n3 c3] 27)).heap.size (w.alloc (.cells #[.slice A0 n0 c0, .slice A1 n1 c1, .slice A2 n2 c2, .slice A3 n3 c3] 27))) (.cells #[.slice B0 m0 d0, .slice B1 m1 d1, .slice B2 m2 d2, .slice B3 m3 d3] 27)
  have HB1 := Lib.hid (below_then HB0.out hb1)
  have HK1 := Lib.hid (Blk.new (w.alloc (.cells #[.slice A0 n0 c0, .slice A1 n1 c1, .slice A2 n2 c2, .slice A3 n3 c3] 27)) #[.slice B0 m0 d0, .slice B1 m1 d1, .slice B2 m2 d2, .slice B3 m3 d3] 27)
  have HK2 := Lib.hid (HK0.out.below hb1 HK0.out.lt)
  rw [HSZ.out] at HK1
  clear hb1 h
  go_enter Tryz.func11, Tryz.ntmps11
  go_upto_region 1 with fail
  try rw [HSZ.out]
  generalize (w.alloc (.cells #[.slice A0 n0 c0, .slice A1 n1 c1, .slice A2 n2 c2, .slice A3 n3 c3] 27)).alloc (.cells #[.slice B0 m0 d0, .slice B1 m1 d1, .slice B2 m2 d2, .slice B3 m3 d3] 27) = w2 at *
  have a0 := HK2.out.cell (j := 0) rfl
  have a1 := HK2.out.cell (j := 1) rfl
  have a2 := HK2.out.cell (j := 2) rfl
  have b0 := HK1.out.cell (j := 0) rfl
  have b1 := HK1.out.cell (j := 1) rfl
  have b2 := HK1.out.cell (j := 2) rfl
  by_cases hn0 : n0 = m0
  case neg =>
    have hz : ((n0 : Int) != (m0 : Int)) = true := by simp; omega
    have HE := Lib.hid (HNM.out hn0)
    clear hn0
    go_wp2_with fail
    go_ret
    exact ⟨by rw [HER.out, HE.out]; simp, HB1.out⟩
  subst hn0
  have hz0 : ((n0 : Int) != (n0 : Int)) = false := by simp
  by_cases hn2 : n2 = m2
  case neg =>
    have hz : ((n2 : Int) != (m2 : Int)) = true := by simp; omega
    have HE := Lib.hid (HNI.out hn2)
    clear hn2
    go_wp2_with fail
    go_ret
    exact ⟨by rw [HER.out, HE.out]; simp, HB1.out⟩
  subst hn2
  have hz2 : ((n2 : Int) != (n2 : Int)) = false := by simp
  go_wp2_with fail
  refine (CP.out _ HB1.out).mono ?_
  rintro e w3 ⟨rfl, hb⟩
  have HB3 := Lib.hid (below_then HB1.out hb)
  have HKA3 := Lib.hid (HK2.out.below hb HK2.out.lt)
  have HKC3 := Lib.hid (HK1.out.below hb HK1.out.lt)
  clear hb a0 a1 a2 b0 b1 b2
  have a3 := HKA3.out.cell (j := 3) rfl
  have b3 := HKC3.out.cell (j := 3) rfl
  cases hP : eqL f.pho g.pho with
  | false =>
    rw [hP] at HER
    clear hP
    go_wp2_with fail
    go_ret
    exact ⟨by rw [HER.out]; simp, HB3.out⟩
  | true =>
  rw [hP] at HER
  clear hP
  go_wp2_with fail
  refine (CR.out _ HB3.out).mono ?_
  rintro e w4 ⟨rfl, hb⟩
  have HB4 := Lib.hid (below_then HB3.out hb)
  have HKA4 := Lib.hid (HKA3.out.below hb HKA3.out.lt)
  have HKC4 := Lib.hid (HKC3.out.below hb HKC3.out.lt)
  clear hb a3 b3
  have a0 := HKA4.out.cell (j := 0) rfl
  have a2 := HKA4.out.cell (j := 2) rfl
  have b0 := HKC4.out.cell (j := 0) rfl
  have b2 := HKC4.out.cell (j := 2) rfl
  cases hR : eqL (rulesOf L) (rulesOf M) with
  | false =>
    rw [hR] at HER
    clear hR
    go_wp2_with fail
    go_ret
    exact ⟨by rw [HER.out]; simp, HB4.out⟩
  | true =>
  rw [hR] at HER
  clear hR
  have HRA0 := Lib.hid (H.out.a.mac.below HB4.out)
  have HRB0 := Lib.hid (H.out.b.mac.below HB4.out)
  have HRA2 := Lib.hid (H.out.a.inf.below HB4.out)
  have HRB2 := Lib.hid (H.out.b.inf.below HB4.out)
  go_wp2_with fail
  go_loopw [5, 42] (fun _ i wr => ∃ k q : Nat, k ≤ n0 ∧ i = .int .i64 (k : Int) ∧ wr = w4.drewN q ∧ Hid (f.mac.take k = g.mac.take k)) (fun _ i _ => n0 - (intOf i).toNat)
  case atStart => exact ⟨0, 0, by omega, rfl, rfl, Lib.hid rfl⟩
  case round =>
    obtain ⟨k, q, hk, rfl, rfl, HT⟩ := hrel
    by_cases hlt : k < n0
    · obtain ⟨x, hx⟩ : ∃ x, f.mac[k]? = some x := ⟨_, List.getElem?_eq_getElem (by rw [E0.out]; exact hlt)⟩
      obtain ⟨y, hy⟩ : ∃ y, g.mac[k]? = some y := ⟨_, List.getElem?_eq_getElem (by rw [G0.out]; exact hlt)⟩
      obtain ⟨bl1, o1, rfl, e1, e3⟩ := HRA0.out.macs hx
      obtain ⟨bl2, o2, rfl, e2, e4⟩ := HRB0.out.macs hy
      have HX := Lib.hid hx
      have HY := Lib.hid hy
      obtain ⟨xa, xb⟩ := x
      obtain ⟨ya, yb⟩ := y
      dsimp only at e1 e2 e3 e4
      unfold sv at e1 e2 e3 e4
      have hq := eq_sv xa ya
      have hp := eq_sv xb yb
      generalize (⟨xa.toArray⟩ : ByteArray) = bxa at e1 hq
      generalize (⟨ya.toArray⟩ : ByteArray) = bya at e2 hq
      generalize (⟨xb.toArray⟩ : ByteArray) = bxb at e3 hp
      generalize (⟨yb.toArray⟩ : ByteArray) = byb at e4 hp
      have k0 : (0 : Int) ≤ (k : Int) := by omega
      have k1 : (k : Int) < (n0 : Int) := by omega
      clear hx hy
      by_cases he : xa = ya
      · have g1 : (bxa.toList == bya.toList) = true := by rw [hq]; simp [he]
        by_cases he2 : xb = yb
        · have g2 : (bxb.toList == byb.toList) = true := by rw [hp]; simp [he2]
          have HE : Hid ((xa, xb) = (ya, yb)) := Lib.hid (by rw [he, he2])
          clear he he2 hq hp
          go_wp2_with fail
          go_quiet (fail)
          go_wp2_with fail
          go_roundw
          case rel => exact ⟨k + 1, _, by omega, by go_num, rfl, Lib.hid (take_step HX.out HY.out HE.out HT.out)⟩
          case measure => simp [intOf]; omega
        · have g2 : (bxb.toList == byb.toList) = false := by rw [hp]; simp [he2]
          have HE := Lib.hid (eqL_at HX.out HY.out (fun e => he2 (by injection e)))
          clear he he2 hq hp
          go_wp2_with fail
          go_quiet (fail)
          go_wp2_with fail
          go_ret
          exact ⟨by rw [HER.out, HE.out]; simp, below_drewN (below_drewN HB4.out _) _⟩
      · have g1 : (bxa.toList == bya.toList) = false := by rw [hq]; simp [he]
        have HE := Lib.hid (eqL_at HX.out HY.out (fun e => he (by injection e)))
        clear he hq hp
        go_wp2_with fail
        go_quiet (fail)
        go_wp2_with fail
        go_ret
        exact ⟨by rw [HER.out, HE.out]; simp, below_drewN (below_drewN HB4.out _) _⟩
    · obtain rfl : k = n0 := by omega
      have HE0 := Lib.hid (eqL_take (by rw [E0.out]; exact Nat.le_refl _) (by rw [G0.out]; exact Nat.le_refl _) HT.out)
      rw [HE0.out] at HER
      have HB5 := Lib.hid (below_drewN HB4.out q)
      have HRA3 := Lib.hid (HRA2.out.below (below_of_drewN w4 q))
      have HRB3 := Lib.hid (HRB2.out.below (below_of_drewN w4 q))
      have HKA5 := Lib.hid (HKA4.out.below (below_of_drewN w4 q) HKA4.out.lt)
      have HKC5 := Lib.hid (HKC4.out.below (below_of_drewN w4 q) HKC4.out.lt)
      clear a0 a2 b0 b2 HRA2 HRB2 hlt hk
      generalize w4.drewN q = w5 at *
      have a2 := HKA5.out.cell (j := 2) rfl
      have b2 := HKC5.out.cell (j := 2) rfl
      go_wp2_with fail
      go_loopw [6, 60] (fun _ i wr => ∃ k q : Nat, k ≤ n2 ∧ i = .int .i64 (k : Int) ∧ wr = w5.drewN q ∧ Hid (f.inf.take k = g.inf.take k)) (fun _ i _ => n2 - (intOf i).toNat)
      case atStart => exact ⟨0, 0, by omega, rfl, rfl, Lib.hid rfl⟩
      case round =>
        obtain ⟨k, q, hk, rfl, rfl, HT⟩ := hrel
        by_cases hlt : k < n2
        · obtain ⟨x, hx⟩ : ∃ x, f.inf[k]? = some x := ⟨_, List.getElem?_eq_getElem (by rw [E2.out]; exact hlt)⟩
          obtain ⟨y, hy⟩ : ∃ y, g.inf[k]? = some y := ⟨_, List.getElem?_eq_getElem (by rw [G2.out]; exact hlt)⟩
          obtain ⟨bl1, o1, rfl, e1, e3⟩ := HRA3.out.macs hx
          obtain ⟨bl2, o2, rfl, e2, e4⟩ := HRB3.out.macs hy
          have HX := Lib.hid hx
          have HY := Lib.hid hy
          obtain ⟨xa, xb⟩ := x
          obtain ⟨ya, yb⟩ := y
          dsimp only at e1 e2 e3 e4
          unfold sv at e1 e2 e3 e4
          have hq := eq_sv xa ya
          have hp := eq_sv xb yb
          generalize (⟨xa.toArray⟩ : ByteArray) = bxa at e1 hq
          generalize (⟨ya.toArray⟩ : ByteArray) = bya at e2 hq
          generalize (⟨xb.toArray⟩ : ByteArray) = bxb at e3 hp
          generalize (⟨yb.toArray⟩ : ByteArray) = byb at e4 hp
          have k0 : (0 : Int) ≤ (k : Int) := by omega
          have k1 : (k : Int) < (n2 : Int) := by omega
          clear hx hy
          by_cases he : xa = ya
          · have g1 : (bxa.toList == bya.toList) = true := by rw [hq]; simp [he]
            by_cases he2 : xb = yb
            · have g2 : (bxb.toList == byb.toList) = true := by rw [hp]; simp [he2]
              have HE : Hid ((xa, xb) = (ya, yb)) := Lib.hid (by rw [he, he2])
              clear he he2 hq hp
              go_wp2_with fail
              go_quiet (fail)
              go_wp2_with fail
              go_roundw
              case rel => exact ⟨k + 1, _, by omega, by go_num, rfl, Lib.hid (take_step HX.out HY.out HE.out HT.out)⟩
              case measure => simp [intOf]; omega
            · have g2 : (bxb.toList == byb.toList) = false := by rw [hp]; simp [he2]
              have HE := Lib.hid (eqL_at HX.out HY.out (fun e => he2 (by injection e)))
              clear he he2 hq hp
              go_wp2_with fail
              go_quiet (fail)
              go_wp2_with fail
              go_ret
              exact ⟨by rw [HER.out, HE.out]; simp, below_drewN (below_drewN HB5.out _) _⟩
          · have g1 : (bxa.toList == bya.toList) = false := by rw [hq]; simp [he]
            have HE := Lib.hid (eqL_at HX.out HY.out (fun e => he (by injection e)))
            clear he hq hp
            go_wp2_with fail
            go_quiet (fail)
            go_wp2_with fail
            go_ret
            exact ⟨by rw [HER.out, HE.out]; simp, below_drewN (below_drewN HB5.out _) _⟩
        · obtain rfl : k = n2 := by omega
          have HE2 := Lib.hid (eqL_take (by rw [E2.out]; exact Nat.le_refl _) (by rw [G2.out]; exact Nat.le_refl _) HT.out)
          rw [HE2.out] at HER
          go_wp2_with fail
          go_ret
          exact ⟨by rw [HER.out]; rfl, below_drewN HB5.out _⟩
end
end Go.Proofs.YtoandhhkmkgmaaaGreatDoor
/- file.Check, file.Print. -/
namespace Go.Proofs.YtoandhhkmkgmaaaGreatDoor
open Go.RowKit

theorem parseFrom_sz (M : List MacT) : ∀ (l : List (List UInt8)) (i q : Nat) (f : FileT), f.mac.length ≤ 200 → f.pho.length ≤ 20 → f.rul.length ≤ 100 → f.inf.length + l.length ≤ q →
    (parseFrom M i f l).2.2.mac.length ≤ 200 ∧ (parseFrom M i f l).2.2.pho.length ≤ 20 ∧ (parseFrom M i f l).2.2.rul.length ≤ 100 ∧ (parseFrom M i f l).2.2.inf.length ≤ q := by
  intro l
  induction l with
  | nil => intro i q f h0 h1 h2 h3; unfold parseFrom; exact ⟨h0, h1, h2, by simpa using h3⟩
  | cons s l ih =>
    intro i q f h0 h1 h2 h3
    have hz : (emptyF.mac.length ≤ 200 ∧ emptyF.pho.length ≤ 20 ∧ emptyF.rul.length ≤ 100 ∧ emptyF.inf.length ≤ q) := ⟨by decide, by decide, by decide, Nat.zero_le _⟩
    simp only [List.length_cons] at h3
    unfold parseFrom
    split
    · exact ih _ _ _ h0 h1 h2 (by omega)
    · split
      · exact hz
      · split
        · exact hz
        · split
          · exact hz
          · rename_i h
            have hk := addP_keeps (q := f.inf.length) (Decidable.byContradiction h) h1 h2 (Nat.le_refl _)
            exact ih _ _ _ (by rw [addP_mac]; exact h0) hk.1 hk.2.1 (by omega)
theorem fileP_sz (l : List (List UInt8)) : (fileP l).2.2.mac.length ≤ 200 ∧ (fileP l).2.2.pho.length ≤ 20 ∧ (fileP l).2.2.rul.length ≤ 100 ∧ (fileP l).2.2.inf.length ≤ 200 := by
  have hz : (emptyF.mac.length ≤ 200 ∧ emptyF.pho.length ≤ 20 ∧ emptyF.rul.length ≤ 100 ∧ emptyF.inf.length ≤ 200) := by decide
  unfold fileP
  split
  · exact hz
  · rename_i hl
    split
    · exact hz
    · exact parseFrom_sz _ _ _ _ _ (by dsimp only; have := macrosP_len l; omega) (by show 0 ≤ 20; omega) (by show 0 ≤ 100; omega) (by show 0 + l.length ≤ 200; omega)
theorem fileP_szl (l : List (List UInt8)) : SzL (fileP l).2.2 := by
  obtain ⟨h1, h2, h3, h4⟩ := fileP_sz l
  exact ⟨by omega, by omega, by omega, by omega⟩
theorem SzF.szl {f : FileT} (h : SzF f) : SzL f := ⟨by have := h.mac; omega, by have := h.phos.1; omega, by have := h.inf; omega, by have := h.rul; omega⟩
end Go.Proofs.YtoandhhkmkgmaaaGreatDoor
