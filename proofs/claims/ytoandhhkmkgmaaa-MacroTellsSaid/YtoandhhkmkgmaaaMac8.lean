/- Contract: macro.newTable. Names below 2^63 bytes, values shorter than 2^32 - 15. -/
import Derived.Test.YtoandhhkmkgmaaaMac7
namespace Go.Proofs.Ytoandhhkmkgmaaa
open Go.RowKit Go.ChangeMaps

def NewPost (l : List MacT) (m : Int) (w : World) (e : Ending) (w' : World) : Prop :=
  Below w.heap.size w w' ∧ ((macE l ≠ 0 ∧ e = .returned (.tuple #[.map none, .int .i64 (macE l : Nat)])) ∨ (macE l = 0 ∧ ∃ bm T, e = .returned (.tuple #[.map (some bm), .int .i64 0]) ∧ WkAt l bm m T w' ∧ ∀ x ∈ T, x.st = 2))
theorem newPost_no {l : List MacT} {m : Int} {w w' : World} {k : Nat} (h : Below w.heap.size w w') (he : macE l = k) (h0 : k ≠ 0) : NewPost l m w (.returned (.tuple #[.map none, .int .i64 (k : Int)])) w' := ⟨h, .inl ⟨by rw [he]; exact h0, by rw [he]⟩⟩
theorem newPost_noB {l : List MacT} {m : Int} {w w' : World} {k bm : Nat} (hbm : w.heap.size = bm) (h : Below bm w w') (he : macE l = k) (h0 : k ≠ 0) : NewPost l m w (.returned (.tuple #[.map none, .int .i64 (k : Int)])) w' := newPost_no (by rw [hbm]; exact h) he h0
theorem tabFind {w : World} {bm : Nat} {T : List EntM} (h : TabAt w bm T) {e : EntM} (he : e ∈ T) : (Instr.lookup 58 (.map (some bm)) (sv e.nm) false).run Try.prog w = .ok (.pointer (some ⟨e.blk, 0, none⟩)) w := by
  have hn : e.nm ∈ namesT T := List.mem_map.2 ⟨e, he, rfl⟩
  rcases tab_look h.mp h.k40 e.nm (by have := h.k40 _ hn; unfold maxLen; omega) with ⟨h1, _⟩ | ⟨j, e', h1, h2, h3⟩
  · exact absurd hn h1
  · have := once_T h.nd he (List.mem_of_getElem? h1) h2.symm
    rw [← this] at h3
    exact h3
theorem tabMiss {w : World} {bm : Nat} {T : List EntM} (h : TabAt w bm T) {n : List UInt8} (hn : n ∉ namesT T) (hl : n.length ≤ maxLen) : (Instr.lookup 58 (.map (some bm)) (sv n) false).run Try.prog w = .ok (.pointer none) w := by
  rcases tab_look h.mp h.k40 n hl with ⟨_, h1⟩ | ⟨j, e', h1, h2, h3⟩
  · exact h1
  · exact absurd (List.mem_map.2 ⟨e', List.mem_of_getElem? h1, h2⟩) hn
theorem NtAt.start (l : List MacT) (w : World) : NtAt l w.heap.size 0 [] (w.alloc (.map #[] 0)) := by
  have hmp : MapS (w.alloc (.map #[] 0)) w.heap.size (tabS []) := by
    unfold MapS
    rw [heap_alloc_new]
    rfl
  exact ⟨⟨hmp, List.nodup_nil, (by simp [namesT]), (by simp), (by simp), List.nodup_nil, (by simp), (by simp), (by simp)⟩, rfl, by simp, by simp, rfl, by simp⟩
theorem NtAt.entry {l : List MacT} {bm k : Nat} {T : List EntM} {w : World} (h : NtAt l bm k T w) {i : Nat} {x : MacT} (hi : l[i]? = some x) (hk : i < k) : ∃ e ∈ T, e.nm = x.1 ∧ e.val = x.2 := by
  have : x ∈ T.map pairM := by
    rw [h.pairs]
    exact List.mem_of_getElem? (i := i) (by rw [List.getElem?_take, if_pos hk]; exact hi)
  obtain ⟨e, he, hp⟩ := List.mem_map.1 this
  unfold pairM at hp
  exact ⟨e, he, by rw [← hp], by rw [← hp]⟩
theorem piecesF_good : ∀ (f : Nat) (s : List UInt8) (n : List UInt8), (true, n) ∈ (parseF f s).1 → goodName n = true
  | 0, _, n, h => by simp [parseF] at h
  | f + 1, s, n, h => by
    unfold parseF at h
    split at h
    · simp at h
    · split at h
      · simp only [List.mem_cons, Prod.mk.injEq, Bool.true_eq_false, false_and, false_or] at h
        exact piecesF_good f _ n h
      · split at h
        · rename_i hg
          simp only [List.mem_cons, Prod.mk.injEq, Bool.true_eq_false, false_and, false_or, true_and] at h
          rcases h with h | h
          · rw [h]; exact hg.2.2
          · exact piecesF_good f _ n h
        · simp at h
theorem pieces_good {s n : List UInt8} (h : (true, n) ∈ (parseM s).1) : goodName n = true := piecesF_good _ s n h
set_option maxRecDepth 100000 in
set_option maxHeartbeats 4000000 in
theorem mNew_any {A : Option Addr} {n c : Nat} (l : List MacT) (m : Int) (w : World) (hr : Rd w A (macV l)) (hn : l.length = n) (hb : n ≤ 9223372036854775807) (hs : ∀ x ∈ l, x.1.length ≤ 9223372036854775807 ∧ x.2.length < 4294967281) (hm : w.cell? ⟨0, 0, none⟩ = some (.int .i64 m)) (h0 : 0 < w.heap.size) :
    Calls Try.prog 37 #[.slice A n c] w (NewPost l m w) := by
  have HR := Lib.hid hr
  have HN := Lib.hid hn
  have HS := Lib.hid hs
  have HM := Lib.hid hm
  have HW0 := Lib.hid h0
  have HST := Lib.hid (NtAt.start l w)
  clear hr hn hs hm h0
  go_enter Try.func37, Try.ntmps37
  by_cases hbig : 40 < n
  · have HBIG := Lib.hid hbig
    have hb1 : (40 : Int) < (n : Int) := by omega
    clear hbig
    go_wp2_with fail
    go_ret2
    exact newPost_no (k := 2) (Below.refl _ _) (macE_big (by rw [HN.out]; exact HBIG.out)) (by decide)
  · have HSM := Lib.hid hbig
    have hb1 : ¬ (40 : Int) < (n : Int) := by omega
    have hn40 : n ≤ 40 := by omega
    have hmm := @run_makeMap Try.prog
    clear hbig hb
    go_wp2_with fail
    clear hmm
    go_loopw [6, 7, 8, 21] (fun _ _ _ i wr => ∃ (q : Nat) (T : List EntM), i = .int .i64 (q : Int) ∧ q ≤ n ∧ Hid (NtAt l w.heap.size q T wr) ∧ Hid (Below w.heap.size w wr)) (fun _ _ _ i _ => n - (intOf i).toNat)
    case atStart => exact ⟨0, [], rfl, by omega, HST, Lib.hid ((Below.refl _ _).alloc (Nat.le_refl _) _)⟩
    case round =>
      obtain ⟨q, T, rfl, hq, HT, HB⟩ := hrel
      by_cases hlt : q < n
      · obtain ⟨x, hx⟩ : ∃ x, l[q]? = some x := ⟨_, List.getElem?_eq_getElem (by rw [HN.out]; exact hlt)⟩
        obtain ⟨b, off, rfl, c0, c1⟩ := (show Rd wr A (macV l) from fun hp => by
          obtain ⟨b, off, h1, h2, h3⟩ := HR.out hp
          exact ⟨b, off, h1, Nat.lt_of_lt_of_le h2 HB.out.size, fun j u hj => (HB.out.cell (p := ⟨b, off + j, none⟩) h2).trans (h3 j u hj)⟩).two hx
        have HX := Lib.hid hx
        have HXS := Lib.hid (HS.out x (List.mem_of_getElem? hx))
        obtain ⟨xn, xv⟩ := x
        rw [Nat.mul_comm 2 q] at c0 c1
        simp only [] at c0 c1 HXS
        obtain ⟨bn, hbn⟩ : ∃ bn, sv xn = .string bn := ⟨_, rfl⟩
        obtain ⟨bv, hbv⟩ : ∃ bv, sv xv = .string bv := ⟨_, rfl⟩
        rw [hbn] at c0
        rw [hbv] at c1
        have hW1 : Below wr.heap.size wr (wr.alloc (.cells #[.string bn, .string bv] 25)) := (Below.refl _ _).alloc (Nat.le_refl _) _
        have HW1 := Lib.hid hW1
        have HSZ : Hid (wr.heap.size < (wr.alloc (.cells #[.string bn, .string bv] 25)).heap.size) := Lib.hid (by simp)
        have HPOS := Lib.hid (Nat.lt_of_lt_of_le HW0.out HB.out.size)
        have HMW := Lib.hid ((HB.out.cell (p := ⟨0, 0, none⟩) HW0.out).trans HM.out)
        have HU := Lib.hid (mUses_any xv (wr.alloc (.cells #[.string bn, .string bv] 25)) m ((HW1.out.cell (p := ⟨0, 0, none⟩) HPOS.out).trans HMW.out) (Nat.lt_trans HPOS.out HSZ.out) HXS.out.2)
        have HC : Hid (∀ W, Calls Try.prog 40 #[.string bn] W fun e w' => e = .returned (.int .i64 (nameErr xn)) ∧ W = w') := Lib.hid (fun W => by rw [← hbn]; exact nmCheck_any xn W HXS.out.1)
        have hbk := Blk.new wr #[.string bn, .string bv] 25
        have HBK := Lib.hid hbk
        have HBN := Lib.hid hbn
        have HBV := Lib.hid hbv
        rw [hbv] at HU
        clear hx hbn hbv hW1 hbk
        go_wp2_with fail
        refine HU.out.mono ?_
        rintro e w2 hU
        have hF : ∀ k : Nat, faultM (namesT T) (xn, xv) = k → k ≠ 0 → macE l = k := fun k h1 h2 => by
          have hq : ([] : List (List UInt8)) ++ namesL (l.take q) = namesT T := by rw [List.nil_append, HT.out.names]
          have hf := faultF_at HX.out HT.out.ok (by rw [hq, h1]; exact h2)
          rw [hq, h1] at hf
          rw [macE_bad (by rw [HN.out]; exact HSM.out) (by rw [hf]; exact h2), hf]
        have HF := Lib.hid hF
        clear hF
        rcases hU with ⟨hp, A', c', rfl, hown, hb2⟩ | ⟨hp, rfl, hb2⟩
        · have HP := Lib.hid hp
          have HO := Lib.hid hown
          have HB2 := Lib.hid hb2
          have y0 := (HBK.out.below hb2 HBK.out.lt).cell (j := 0) rfl
          have y1 := (HBK.out.below hb2 HBK.out.lt).cell (j := 1) rfl
          have HBW := Lib.hid ((HB.out.trans (HW1.out.mono HB.out.size)).trans (hb2.mono (by have := HW1.out.size; have := HB.out.size; omega)))
          clear hp hown hb2 HU
          cases hg : goodName xn with
          | false =>
            have HG := Lib.hid hg
            have he : nameErr xn = 3 := by unfold nameErr; rw [hg]; rfl
            rw [he] at HC
            clear hg he
            go_wp2_with fail
            refine (HC.out _).mono ?_
            rintro e w3 ⟨rfl, rfl⟩
            go_wp2_with fail
            go_ret2
            exact newPost_no (k := 3) HBW.out (HF.out 3 (by unfold faultM; rw [if_pos (.inl HG.out)]) (by decide)) (by decide)
          | true =>
            have HG := Lib.hid hg
            have he : nameErr xn = 0 := by unfold nameErr; rw [hg]; rfl
            rw [he] at HC
            clear hg he
            have HT2 := Lib.hid ((HT.out.below HW1.out).below HB2.out)
            by_cases hin : xn ∈ namesT T
            · have HIN := Lib.hid hin
              obtain ⟨e0, he0, hen⟩ := List.mem_map.1 hin
              have lk := tabFind HT2.out.tab he0
              rw [hen, HBN.out] at lk
              clear hin he0 hen
              go_wp2_with fail
              refine (HC.out _).mono ?_
              rintro e w3 ⟨rfl, rfl⟩
              go_wp2_with fail
              go_ret2
              exact newPost_no (k := 6) HBW.out (HF.out 6 (by unfold faultM inL; rw [if_neg (by rw [HG.out, HP.out]; decide), if_pos (by simpa using HIN.out)]) (by decide)) (by decide)
            · have lk := tabMiss HT2.out.tab hin (by have := HXS.out.1; unfold maxLen; omega)
              rw [HBN.out] at lk
              have HMR := Lib.hid (HT.out.more HX.out HG.out HP.out hin HW1.out HB2.out HSZ.out HO.out)
              clear hin
              rw [HBN.out, HBV.out] at HMR
              have hup := HMR.out.1
              have HNT := Lib.hid HMR.out.2
              clear HMR
              have hus0 : usesOf xv = usesP (parseM xv).1 := rfl
              rw [hus0] at hup
              have HNT2 : Hid (NtAt l w.heap.size (q + 1) (T ++ [⟨w2.heap.size, xn, xv, A', c', usesP (parseM xv).1, 0, [], false⟩]) (setBlock (w2.alloc (.cells #[.string bv, .slice A' (usesP (parseM xv).1).length c', .int .i64 0, .string ⟨#[]⟩, .bool false] 62)) w.heap.size (.map (entS (insM T xn w2.heap.size)) (insM T xn w2.heap.size).length))) := HNT
              clear hus0 HNT
              have HBS := Lib.hid (below_setB (HBW.out.alloc HBW.out.size (.cells #[.string bv, .slice A' (usesP (parseM xv).1).length c', .int .i64 0, .string ⟨#[]⟩, .bool false] 62)) (Nat.le_refl _) (.map (entS (insM T xn w2.heap.size)) (insM T xn w2.heap.size).length))
              generalize (usesP (parseM xv).1).length = nu at *
              go_wp2_with fail
              refine (HC.out _).mono ?_
              rintro e w3 ⟨rfl, rfl⟩
              go_wp2_with fail
              exact ⟨⟨q + 1, _, by go_num, by omega, HNT2, HBS⟩, by simp [intOf]; omega⟩
        · have HP := Lib.hid hp
          have HB2 := Lib.hid hb2
          have y0 := (HBK.out.below hb2 HBK.out.lt).cell (j := 0) rfl
          have HBW := Lib.hid ((HB.out.trans (HW1.out.mono HB.out.size)).trans (hb2.mono (by have := HW1.out.size; have := HB.out.size; omega)))
          have HE := Lib.hid (HF.out 3 (by unfold faultM; rw [if_pos (.inr HP.out)]) (by decide))
          clear hp hb2 HU
          have he : nameErr xn = 0 ∨ nameErr xn = 3 := by unfold nameErr; split <;> simp
          rcases he with he | he
          all_goals rw [he] at HC
          all_goals clear he
          all_goals go_wp2_with fail
          all_goals refine (HC.out _).mono ?_
          all_goals rintro e w3 ⟨rfl, rfl⟩
          all_goals go_wp2_with fail
          all_goals go_ret2
          all_goals exact newPost_no (k := 3) HBW.out HE.out (by decide)
      · obtain rfl : q = n := by omega
        obtain ⟨wz, hwz⟩ : ∃ wz, wz = wr := ⟨_, rfl⟩
        subst hwz
        generalize hbm : w.heap.size = bm at *
        have HBM := Lib.hid hbm
        have hnames := HT.out.names
        rw [← HN.out, List.take_length] at hnames
        have HNM := Lib.hid hnames
        have HRW : Hid (Rd wz A (macV l)) := Lib.hid (fun hp => by
          obtain ⟨b, off, h1, h2, h3⟩ := HR.out hp
          exact ⟨b, off, h1, Nat.lt_of_lt_of_le h2 HB.out.size, fun j u hj => (HB.out.cell (p := ⟨b, off + j, none⟩) (by rw [← HBM.out]; exact h2)).trans (h3 j u hj)⟩)
        have HSHORT : Hid (∀ e ∈ T, e.nm.length ≤ 9223372036854775807 ∧ e.val.length < 4294967281) := Lib.hid (fun e he => by
          have hp : pairM e ∈ T.map pairM := List.mem_map.2 ⟨e, he, rfl⟩
          rw [HT.out.pairs] at hp
          exact HS.out _ (List.mem_of_mem_take hp))
        clear hbm hnames
        go_wp2_with fail
        go_loopw [10, 12, 57] (fun _ _ i wr => ∃ (p : Nat), i = .int .i64 (p : Int) ∧ p ≤ q ∧ Hid (NtAt l bm q T wr) ∧ Hid (Below wz.heap.size wz wr) ∧ Hid (∀ x ∈ l.take p, ∀ u ∈ usesOf x.2, u ∈ namesL l)) (fun _ _ i _ => q - (intOf i).toNat)
        case atStart => exact ⟨0, rfl, by omega, HT, Lib.hid (Below.refl _ _), Lib.hid (by simp)⟩
        case round =>
          obtain ⟨p, rfl, hp, HT2, HB2, HU2⟩ := hrel
          by_cases hlt : p < q
          · obtain ⟨x, hx⟩ : ∃ x, l[p]? = some x := ⟨_, List.getElem?_eq_getElem (by rw [HN.out]; exact hlt)⟩
            obtain ⟨b, off, rfl, c0, c1⟩ := (HRW.out.below HB2.out).two hx
            have HX := Lib.hid hx
            obtain ⟨e0, he0, hen, hev⟩ := HT2.out.entry hx hlt
            obtain ⟨xn, xv⟩ := x
            rw [Nat.mul_comm 2 p] at c0 c1
            simp only [] at c0 c1 hen hev
            obtain ⟨bn, hbn⟩ : ∃ bn, sv xn = .string bn := ⟨_, rfl⟩
            obtain ⟨bv, hbv⟩ : ∃ bv, sv xv = .string bv := ⟨_, rfl⟩
            rw [hbn] at c0
            rw [hbv] at c1
            have hW1 : Below wr.heap.size wr (wr.alloc (.cells #[.string bn, .string bv] 25)) := (Below.refl _ _).alloc (Nat.le_refl _) _
            have HT3 := Lib.hid (HT2.out.below hW1)
            have lk := tabFind HT3.out.tab he0
            rw [hen, hbn] at lk
            have y1 := (HT3.out.tab.blk e0 he0).cell (j := 1) rfl
            have HUS : Hid (e0.us = usesOf xv) := Lib.hid (by rw [HT.out.uses e0 he0, hev])
            have hul : e0.us.length ≤ 8589934563 := by
              have h2 := usesOf_len xv
              have h3 := (HSHORT.out e0 he0).2
              rw [hev] at h3
              rw [HUS.out]; omega
            have HRU := Lib.hid (HT3.out.tab.us e0 he0)
            have HB3 := Lib.hid (HB2.out.trans (hW1.mono HB2.out.size))
            obtain ⟨A0, hA0⟩ : ∃ A0, e0.A = A0 := ⟨_, rfl⟩
            obtain ⟨us, hus⟩ : ∃ us, e0.us = us := ⟨_, rfl⟩
            rw [hA0, hus] at y1
            rw [hA0, hus] at HRU
            rw [hus] at HUS hul
            clear hx he0 hen hev hbn hbv hW1 hA0 hus
            have yb0 := (Blk.new wr #[.string bn, .string bv] 25).cell (j := 0) rfl
            generalize hw3 : wr.alloc (.cells #[.string bn, .string bv] 25) = w3 at *
            go_wp2_with fail
            go_loop [12, 69] (fun _ i => ∃ (j : Nat), i = .int .i64 (j : Int) ∧ j ≤ us.length ∧ Hid (∀ u ∈ us.take j, u ∈ namesL l)) (fun _ i => us.length - (intOf i).toNat)
            case atStart => exact ⟨0, rfl, by omega, Lib.hid (by simp)⟩
            case round =>
              obtain ⟨j, rfl, hj, HJ⟩ := hrel
              by_cases hlj : j < us.length
              · obtain ⟨u, hu⟩ : ∃ u, us[j]? = some u := ⟨_, List.getElem?_eq_getElem hlj⟩
                obtain ⟨b0, o0, rfl, cu⟩ := HRU.out.scell hu
                have HU := Lib.hid hu
                obtain ⟨bu, hbu⟩ : ∃ bu, sv u = .string bu := ⟨_, rfl⟩
                have cu' : w3.cell? ⟨b0, o0 + j, none⟩ = some (.string bu) := by rw [← hbu]; exact cu
                by_cases hin : u ∈ namesT T
                · obtain ⟨e1, he1, hen1⟩ := List.mem_map.1 hin
                  have lu := tabFind HT3.out.tab he1
                  rw [hen1, hbu] at lu
                  have HIN := Lib.hid hin
                  clear hin he1 hen1 hbu hu cu lk y1 c0 c1 hw3
                  go_wp2_with fail
                  go_round
                  case rel => exact ⟨j + 1, by go_num, by omega, Lib.hid (fun v hv => by
                    rw [takeS_M HU.out] at hv
                    rcases List.mem_append.1 hv with hv | hv
                    · exact HJ.out v hv
                    · rw [List.mem_singleton.1 hv, HNM.out]; exact HIN.out)⟩
                  case measure => simp [intOf]; omega
                · have lu := tabMiss HT3.out.tab hin (by
                    have h1 := mem_uses.1 (show u ∈ usesP (parseM xv).1 from by have := List.mem_of_getElem? hu; rw [HUS.out] at this; exact this)
                    have := good_le (pieces_good h1)
                    unfold maxLen; omega)
                  rw [hbu] at lu
                  have HE : Hid (macE l = 5) := Lib.hid (macE_none (by rw [HN.out]; exact HSM.out) (by have := HT.out.ok; rwa [← HN.out, List.take_length] at this) (noneL_true (List.mem_of_getElem? HX.out) (u := u) (by rw [← HUS.out]; exact List.mem_of_getElem? HU.out) (by rw [HNM.out]; exact hin)))
                  clear hin hbu hu cu lk y1 c0 c1 hw3
                  go_wp2_with fail
                  go_ret2
                  exact newPost_noB (k := 5) HBM.out (HB.out.trans (HB3.out.mono (by have := HB.out.size; have := HBM.out; omega))) HE.out (by decide)
              · obtain rfl : j = us.length := by omega
                clear lk y1 c0 c1 hw3
                go_wp2_with fail
                have HUN : Hid (∀ x ∈ l.take (p + 1), ∀ u ∈ usesOf x.2, u ∈ namesL l) := Lib.hid (fun x hx => by
                  rw [takeS_any HX.out] at hx
                  rcases List.mem_append.1 hx with hx | hx
                  · exact HU2.out x hx
                  · rw [List.mem_singleton.1 hx]
                    have h := HJ.out
                    rw [List.take_length, HUS.out] at h
                    exact h)
                exact ⟨⟨p + 1, by go_num, by omega, HT3, HB3, HUN⟩, by simp [intOf]; omega⟩
          · obtain rfl : p = q := by omega
            obtain ⟨wy, hwy⟩ : ∃ wy, wy = wr := ⟨_, rfl⟩
            subst hwy
            have HNO : Hid (noneL l = false) := Lib.hid (noneL_no (fun x hx u hu => HU2.out x (by rw [← HN.out, List.take_length]; exact hx) u hu))
            have HF0 : Hid (faultF [] l = 0) := Lib.hid (by have := HT.out.ok; rwa [← HN.out, List.take_length] at this)
            have HWK : Hid (WkAt l bm m T wy) := Lib.hid ⟨HT2.out.tab, ⟨by have := HT.out.pairs; rwa [← HN.out, List.take_length] at this, HT.out.uses, fun e he => by rw [HT.out.zero e he]; omega, fun e he h2 => by have := HT.out.zero e he; omega⟩,
              (HB2.out.cell (p := ⟨0, 0, none⟩) (by show 0 < wz.heap.size; have := HB.out.size; have := HW0.out; have := HBM.out; omega)).trans ((HB.out.cell (p := ⟨0, 0, none⟩) HW0.out).trans HM.out),
              by have := HB.out.size; have := HW0.out; have := HBM.out; have := HB2.out.size; omega,
              fun x hx => by have := HT.out.base x hx; omega, fun x hx => (HSHORT.out x hx).2, fun x hx u hu => by
                rw [← HNM.out]
                have hp : pairM x ∈ T.map pairM := List.mem_map.2 ⟨x, hx, rfl⟩
                rw [HT.out.pairs] at hp
                rw [HT.out.uses x hx] at hu
                exact noneL_false HNO.out (List.mem_of_mem_take hp) hu⟩
            have HRY := Lib.hid (HRW.out.below HB2.out)
            have HBY := Lib.hid (HB.out.trans (HB2.out.mono (by have := HB.out.size; have := HBM.out; omega)))
            go_wp2_with fail
            go_loopw [14, 81] (fun _ i wr => ∃ (p2 : Nat) (T3 : List EntM), i = .int .i64 (p2 : Int) ∧ p2 ≤ p ∧ Hid (WkAt l bm m T3 wr) ∧ Hid (Below bm w wr) ∧ Hid (∀ x ∈ T3, x.st ≠ 1) ∧ Hid (∀ x ∈ T3, bm < x.blk) ∧ Hid (∀ x ∈ l.take p2, ∃ y ∈ T3, y.nm = x.1 ∧ y.st = 2)) (fun _ i _ => p - (intOf i).toNat)
            case atStart => exact ⟨0, T, rfl, by omega, HWK, HBY, Lib.hid (fun x hx => by rw [HT.out.zero x hx]; decide), Lib.hid HT.out.base, Lib.hid (by simp)⟩
            case round =>
              obtain ⟨p2, T3, rfl, hp2, HK3, HB3, HNO1, HBB, HD3⟩ := hrel
              by_cases hlt2 : p2 < p
              · obtain ⟨x, hx⟩ : ∃ x, l[p2]? = some x := ⟨_, List.getElem?_eq_getElem (by rw [HN.out]; exact hlt2)⟩
                obtain ⟨b, off, rfl, c0, c1⟩ := (show Rd wr A (macV l) from fun hp => by
                  obtain ⟨b, off, h1, h2, h3⟩ := HR.out hp
                  exact ⟨b, off, h1, Nat.lt_of_lt_of_le h2 HB3.out.size, fun j u hj => (HB3.out.cell (p := ⟨b, off + j, none⟩) (by rw [← HBM.out]; exact h2)).trans (h3 j u hj)⟩).two hx
                have HX := Lib.hid hx
                obtain ⟨xn, xv⟩ := x
                rw [Nat.mul_comm 2 p2] at c0 c1
                simp only [] at c0 c1
                obtain ⟨bn, hbn⟩ : ∃ bn, sv xn = .string bn := ⟨_, rfl⟩
                obtain ⟨bv, hbv⟩ : ∃ bv, sv xv = .string bv := ⟨_, rfl⟩
                rw [hbn] at c0
                rw [hbv] at c1
                have hW1 : Below wr.heap.size wr (wr.alloc (.cells #[.string bn, .string bv] 25)) := (Below.refl _ _).alloc (Nat.le_refl _) _
                have HK4 := Lib.hid (HK3.out.below hW1)
                have HIN : Hid (xn ∈ namesT T3) := Lib.hid (by
                  rw [← HK4.out.inv.names]
                  exact List.mem_map.2 ⟨(xn, xv), List.mem_of_getElem? HX.out, rfl⟩)
                have HC := Lib.hid (mWork_any l bm m (zerosM T3) T3 xn _ (Nat.le_refl _) HK4.out HIN.out (fun y hy h1 => absurd h1 (HNO1.out y hy)))
                rw [hbn] at HC
                have HB4 := Lib.hid (HB3.out.trans (hW1.mono (by have := HB3.out.size; have := HBM.out; omega)))
                clear hx hbn hbv hW1
                go_wp2_with fail
                refine HC.out.mono ?_
                rintro e w5 ⟨bb, rfl, hbut, hres⟩
                have HB5 := Lib.hid (HB4.out.trans (hbut.below (B := bm) (fun k hk => by
                  obtain ⟨y, hy, rfl⟩ := List.mem_map.1 hk
                  exact Nat.le_of_lt (HBB.out y hy)) (by have := HB4.out.size; have := HBM.out; omega)))
                clear hbut
                cases bb with
                | true =>
                  rw [if_pos rfl] at hres
                  obtain ⟨T5, hk5, hg5, hd5⟩ := hres
                  have HK5 := Lib.hid hk5
                  have HG5 := Lib.hid hg5
                  have HD5 := Lib.hid hd5
                  clear hk5 hg5 hd5
                  go_wp2_with fail
                  exact ⟨⟨p2 + 1, T5, by go_num, by omega, HK5, HB5, Lib.hid (fun y hy h1 => by
                    obtain ⟨z, hz, hgz⟩ := HG5.out.bwd y hy
                    exact HNO1.out z hz (hgz.one.1 h1)), Lib.hid (fun y hy => by
                    obtain ⟨z, hz, hgz⟩ := HG5.out.bwd y hy
                    rw [hgz.blk]; exact HBB.out z hz), Lib.hid (fun y hy => by
                    rw [takeS_any HX.out] at hy
                    rcases List.mem_append.1 hy with hy | hy
                    · exact gr_st2 HG5.out (HD3.out y hy)
                    · rw [List.mem_singleton.1 hy]; exact HD5.out)⟩, by simp [intOf]; omega⟩
                | false =>
                  rw [if_neg (by decide)] at hres
                  have HE : Hid (macE l = 8) := Lib.hid (macE_cyc (by rw [HN.out]; exact HSM.out) HF0.out HNO.out hres)
                  clear hres
                  go_wp2_with fail
                  go_ret2
                  exact newPost_noB (k := 8) HBM.out HB5.out HE.out (by decide)
              · obtain rfl : p2 = p := by omega
                have HALL : Hid (∀ x ∈ T3, x.st = 2) := Lib.hid (fun x hx => by
                  have hp : pairM x ∈ l := by rw [← HK3.out.inv.pairs]; exact List.mem_map.2 ⟨x, hx, rfl⟩
                  obtain ⟨y, hy, hyn, hy2⟩ := HD3.out _ (by rw [← HN.out, List.take_length]; exact hp)
                  have := once_T HK3.out.tab.nd hy hx hyn
                  rw [← this]; exact hy2)
                have HE : Hid (macE l = 0) := Lib.hid (macE_ok (by rw [HN.out]; exact HSM.out) HF0.out HNO.out (fun n hn => by
                  rw [HK3.out.inv.names] at hn
                  obtain ⟨x, hx, rfl⟩ := List.mem_map.1 hn
                  exact (HK3.out.inv.done x hx (HALL.out x hx)).2.1))
                go_wp2_with fail
                go_ret2
                exact ⟨by rw [HBM.out]; exact HB3.out, .inr ⟨HE.out, bm, T3, rfl, HK3.out, HALL.out⟩⟩
end Go.Proofs.Ytoandhhkmkgmaaa
