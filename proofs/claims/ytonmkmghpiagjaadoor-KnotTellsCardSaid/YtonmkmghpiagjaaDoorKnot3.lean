/- Contract: parts of package knot. Rows are good; the table of math/bits lies. -/
import Derived.Test.YtonmkmghpiagjaaDoorKnot2
import Derived.Test.YtonmkmghpiagjaaDoorKnotSort
namespace Go.Proofs.YtonmkmghpiagjaaDoor
open Go.RowKit Go.Sort Go.Lib

/-- make([]int, n), as a block. -/
theorem make_intsK (n : Nat) (hn : n ≤ 64) (w : World) :
    (Instr.makeSlice 24 (.int .i64 (n : Int)) (.int .i64 (n : Int))).run Tryd.prog w = .ok (.slice (some ⟨w.heap.size, 0, none⟩) n n) (w.alloc (.cells (Array.replicate n (.int .i64 0)) 3)) := by
  obtain ⟨ht, i, hi, hz, hs1, hb, _⟩ := elInt
  have hr := run_make (P := Tryd.prog) w _ _ i _ ht hi hz .i64 .i64 n n (by omega) (by omega) (by rw [hb]; omega) (by omega)
  simp only [Int.toNat_natCast] at hr
  rw [hr]
  have e : madeCells (Value.int .i64 0).cells (n * i.size) = Array.replicate n (.int .i64 0) := by
    apply Array.ext'
    rw [hs1, Nat.mul_one, show (Value.int .i64 0).cells = #[Value.int .i64 0] from rfl, toList_madeCells_one, Array.toList_replicate]
  rw [e]
theorem own_reps (w : World) {B n : Nat} (hn : n ≤ 64) (e : TypeId) (v : Value) (hB : B ≤ w.heap.size) : (w.alloc (.cells (Array.replicate n v) e)).ownsRow B e 1 (.slice (some ⟨w.heap.size, 0, none⟩) n n) n (List.replicate n v) :=
  ⟨by simp, .inr ⟨w.heap.size, n, Array.replicate n v, rfl, hB, heap_alloc_new w _, Nat.le_refl _, by unfold maxLen; omega, by simp, by simp⟩⟩
theorem own_alloc {w : World} {B : Nat} {e : TypeId} {v : Value} {n : Nat} {xs : List Value} (h : w.ownsRow B e 1 v n xs) (o : Obj) : (w.alloc o).ownsRow B e 1 v n xs := own_below h ((Below.refl _ _).alloc (Nat.le_refl _) o)
theorem kw_start (w : World) (A : Option Addr) (n c bM bL : Nat) (hn : n ≤ 64) (hb : (bM = w.heap.size ∧ bL = w.heap.size + 1) ∨ (bM = w.heap.size + 1 ∧ bL = w.heap.size)) :
    KW w (((w.alloc (.cells (Array.replicate n (.int .i64 0)) 3)).alloc (.cells (Array.replicate n (.int .i64 0)) 3)).alloc
      (.cells #[.slice A n c, .slice (some ⟨bM, 0, none⟩) n n, .slice (some ⟨bL, 0, none⟩) n n, .slice none 0 0, .int .u64 0, .int .i64 0, .slice none 0 0] 167)) w.heap.size (w.heap.size + 1 + 1) bM bL A n c (startT n) none none := by
  have h1 : (w.alloc (.cells (Array.replicate n (.int .i64 0)) 3)).heap.size = w.heap.size + 1 := by simp
  have h2 : ((w.alloc (.cells (Array.replicate n (.int .i64 0)) 3)).alloc (.cells (Array.replicate n (.int .i64 0)) 3)).heap.size = w.heap.size + 1 + 1 := by simp
  have o1 := own_alloc (own_reps w hn 3 (.int .i64 0) (Nat.le_refl _)) (.cells (Array.replicate n (.int .i64 0)) 3)
  have o2 := own_reps (B := w.heap.size) (w.alloc (.cells (Array.replicate n (.int .i64 0)) 3)) hn 3 (.int .i64 0) (by rw [h1]; omega)
  rw [h1] at o2
  have e0 : ((startT n).met.map nv) = List.replicate n (.int .i64 0) := by show (List.replicate n 0).map nv = _; rw [List.map_replicate]; rfl
  have e1 : ((startT n).low.map nv) = List.replicate n (.int .i64 0) := by show (List.replicate n 0).map nv = _; rw [List.map_replicate]; rfl
  have hbox := Blk.new ((w.alloc (.cells (Array.replicate n (.int .i64 0)) 3)).alloc (.cells (Array.replicate n (.int .i64 0)) 3)) #[.slice A n c, .slice (some ⟨bM, 0, none⟩) n n, .slice (some ⟨bL, 0, none⟩) n n, .slice none 0 0, .int .u64 0, .int .i64 0, .slice none 0 0] 167
  rw [h2] at hbox
  refine ⟨0, 0, ⟨below_new (below_new (below_new (Below.refl _ _) _) _) _, hbox, ?_, ?_, World.ownsRow_nil _ _ _ _, World.ownsRow_nil _ _ _ _, by omega, by omega, by omega, by omega, fun g hg => (by cases hg), fun g hg => (by cases hg)⟩⟩
  · rw [e0]
    rcases hb with ⟨rfl, _⟩ | ⟨rfl, _⟩
    · exact own_alloc o1 _
    · exact own_alloc o2 _
  · rw [e1]
    rcases hb with ⟨_, rfl⟩ | ⟨_, rfl⟩
    · exact own_alloc o2 _
    · exact own_alloc o1 _
theorem KW.drew {W0 w : World} {B BW bM bL : Nat} {A : Option Addr} {n c : Nat} {t : Tj} {S O : Option Addr} (h : KW W0 w B BW bM bL A n c t S O) : KW W0 w.drew B BW bM bL A n c t S O := by
  obtain ⟨cS, cO, h⟩ := h
  exact ⟨cS, cO, h.drew⟩
set_option maxHeartbeats 1000000 in
set_option maxRecDepth 4000 in
theorem parts_any {A : Option Addr} {n c : Nat} (l : List Nat) (w : World) (h1 : Rd w A (l.map uv)) (hl : l.length = n) (hg : Good l) (hT : Tab w) :
    Calls Tryd.prog 94 #[.slice A n c] w (OwnPost 23 (tiedParts l).length ((tiedParts l).map uv) w) := by
  have hn : n ≤ 64 := by have := hg.1; omega
  have H1 := Lib.hid h1
  have HL := Lib.hid hl
  have HG := Lib.hid hg
  have HT := Lib.hid hT
  have hmk := make_intsK n hn
  have HSA := Lib.hid (kw_start w A n c w.heap.size (w.heap.size + 1) hn (.inl ⟨rfl, rfl⟩))
  have HSB := Lib.hid (kw_start w A n c (w.heap.size + 1) w.heap.size hn (.inr ⟨rfl, rfl⟩))
  clear h1 hl hg hT
  go_enter Tryd.func94, Tryd.ntmps94
  go_wp2_with fail
  go_region
  · have HK0 : Hid (KW w (((w.alloc (.cells (Array.replicate n (.int .i64 0)) 3)).alloc (.cells (Array.replicate n (.int .i64 0)) 3)).alloc (.cells #[.slice A n c, .slice (some ⟨w.heap.size, 0, none⟩) n n, .slice (some ⟨(w.heap.size + 1), 0, none⟩) n n, .slice none 0 0, .int .u64 0, .int .i64 0, .slice none 0 0] 167)).drew w.heap.size (w.heap.size + 1 + 1) w.heap.size (w.heap.size + 1) A n c (outerT l 0) none none) := Lib.hid (by rw [show outerT l 0 = startT l.length from rfl, HL.out]; exact HSA.out.drew)
    generalize (((w.alloc (.cells (Array.replicate n (.int .i64 0)) 3)).alloc (.cells (Array.replicate n (.int .i64 0)) 3)).alloc (.cells #[.slice A n c, .slice (some ⟨w.heap.size, 0, none⟩) n n, .slice (some ⟨(w.heap.size + 1), 0, none⟩) n n, .slice none 0 0, .int .u64 0, .int .i64 0, .slice none 0 0] 167)).drew = w0 at HK0 ⊢
    clear HSA HSB hmk
    go_wp2_with fail
    go_loopw [4, 16] (fun _ x wr => ∃ (k : Nat) (S O : Option Addr), x = .int .i64 (k : Int) ∧ k ≤ n ∧ Hid (KW w wr w.heap.size (w.heap.size + 1 + 1) w.heap.size (w.heap.size + 1) A n c (outerT l k) S O)) (fun _ x _ => n - (intOf x).toNat)
    case atStart => exact ⟨0, _, _, rfl, Nat.zero_le _, HK0⟩
    case round =>
      clear HK0
      obtain ⟨k, S, O, rfl, hk, HK⟩ := hrel
      obtain ⟨cS, cO, hkr⟩ := HK.out
      have HKR := Lib.hid hkr
      have HOUT := Lib.hid (outer_out HG.out k (by rw [HL.out]; exact hk))
      clear hkr
      by_cases hlt : k < n
      · have y1 : wr.cell? ⟨w.heap.size + 1 + 1, 1, none⟩ = some (.slice (some ⟨w.heap.size, 0, none⟩) n n) := HKR.out.box.cell rfl
        have u1 : wr.cell? ⟨w.heap.size, k, none⟩ = some (.int .i64 ((outerT l k).m k : Nat)) := HKR.out.metCell hlt
        by_cases hm : (outerT l k).m k = 0
        · have HM := Lib.hid hm
          have u1' : wr.cell? ⟨w.heap.size, k, none⟩ = some (.int .i64 0) := by rw [u1, hm]; rfl
          have HNX : Hid (outerT l (k + 1) = visit l l.length k (outerT l k)) := Lib.hid (by show (if _ then _ else _) = _; rw [if_pos hm])
          clear u1 hm
          go_wp2_with fail
          refine (walk_any l w w.heap.size _ _ _ H1.out HL.out HG.out HT.out rfl l.length k (outerT l k) noP (List.range l.length) S O wr HOUT.out.inv hlt HM.out (fun x hx => hx.elim) (fun j hj _ => List.mem_range.2 hj) (by rw [List.length_range]; exact Nat.le_refl _) HOUT.out.od HK.out).mono ?_
          rintro e w7 ⟨rfl, S3, O3, hk7, _⟩
          rw [← HNX.out] at hk7
          have HK7 := Lib.hid hk7
          clear hk7 u1' y1
          go_wp2_with fail
          exact ⟨⟨k + 1, S3, O3, val_succ k, hlt, HK7⟩, meas_lt hlt⟩
        · have hm' : ((((outerT l k).m k : Nat) : Int) == 0) = false := by simp only [beq_eq_false_iff_ne]; omega
          have HNX : Hid (outerT l (k + 1) = outerT l k) := Lib.hid (by show (if _ then _ else _) = _; rw [if_neg hm])
          clear hm
          go_wp2_with fail
          exact ⟨⟨k + 1, S, O, val_succ k, hlt, by rw [HNX.out]; exact HK⟩, meas_lt hlt⟩
      · obtain rfl : k = n := by omega
        have HE : Hid ((outerT l k).out = endO l) := Lib.hid (by unfold endO; rw [HL.out])
        have HKE : Hid (KR w wr w.heap.size (w.heap.size + 1 + 1) w.heap.size (w.heap.size + 1) (boxV w.heap.size (w.heap.size + 1) A k c S (outerT l k).stk.length cS (outerT l k).on (outerT l k).now O (endO l).length cO) k ((outerT l k).met.map nv) ((outerT l k).low.map nv) S (outerT l k).stk.length cS ((outerT l k).stk.map nv) O (endO l).length cO ((endO l).map uv)) := Lib.hid (by rw [← HE.out]; exact HKR.out)
        have y6 : wr.cell? ⟨w.heap.size + 1 + 1, 6, none⟩ = some (.slice O (endO l).length cO) := HKE.out.box.cell rfl
        have HLE := Lib.hid (endO_len HG.out)
        have hsz := HKE.out.bel.size
        clear HK HKR hlt hk
        rcases Nat.eq_zero_or_pos (endO l).length with h0 | h0
        · have hl0 : endO l = [] := List.eq_nil_of_length_eq_zero h0
          have HT0 : Hid (tiedParts l = []) := Lib.hid (List.eq_nil_iff_forall_not_mem.2 fun s hs => by
            have := (parts_mem HG.out s).2 ((tp_mem HG.out s).1 hs)
            rw [hl0] at this
            cases this)
          have HOW := Lib.hid HKE.out.out
          have HBE := Lib.hid HKE.out.bel
          rw [hl0] at HOW
          rw [h0] at y6
          clear h0 HE HKE HLE
          go_wp2_with fail
          refine (Tryd.slices_SortFunc_none_f130 (α := Nat) _ _ _ _).mono ?_
          rintro e w' ⟨rfl, rfl⟩
          go_wp2_with fail
          go_ret
          exact ⟨O, cO, by rw [HT0.out]; rfl, by rw [HT0.out]; exact HOW.out, HBE.out⟩
        · have hi : Inhabited (Prt l) := ⟨⟨(endO l)[0], List.getElem_mem h0⟩⟩
          have hval : (endO l).map uv = (prts l).map prtV := by rw [prtV_map, prts_val]
          have hlen := prts_len l
          have HBE := Lib.hid HKE.out.bel
          have hbox := HKE.out.box.lt
          have HOW := HKE.out.out
          have hdO := HKE.out.dO
          rw [hval, ← hlen] at HOW
          obtain ⟨g, rfl, hg1, hg2, hH⟩ := own_holds HOW (by omega)
          have hne : g ≠ w.heap.size + 1 + 1 := (hdO g rfl).1
          have hsw : ∀ q (os : Array Obj) (ts : List (Prt l)), ts.length = (prts l).length → Tab (sortWorld prtV wr g 0 q ts.toArray os) := fun q os ts hts => HT.out.below (HBE.out.trans ((Below.refl _ wr).grown (own_sorted HOW hts q os).2 hsz (fun k hk => by injection hk with hk; omega)))
          have hcmp := prtCmp_lays HG.out (g := g) wr hsw
          have HTS := Lib.hid (Tryd.slices_SortFunc_total_f130 prtV (fun _ => rfl) prtC prt_swo 131 #[] g 0 cO (prts l).toArray wr (fun args w => enters_of Tryd.func131 (by kernel_rfl) rfl args w) hcmp hH hg2 (by have := HLE.out; have := HL.out; simp [hlen]; omega) (prt_tot HG.out))
          have hsz2 : (prts l).toArray.size = (endO l).length := by simp [hlen]
          rw [hsz2] at HTS
          have hlt : ((prts l).mergeSort fun x y => !(ltOf prtC) y x).length = (prts l).length := (List.mergeSort_perm _ _).length_eq
          have HS := Lib.hid (fun q os => own_sorted HOW hlt q os)
          have HSB2 := Lib.hid (fun q os => own_sorted_below HOW hlt hsz q os)
          have HRN : Hid (((prts l).mergeSort fun x y => !(ltOf prtC) y x).map prtV = (tiedParts l).map uv) := Lib.hid (by rw [prtV_map, prt_sorted HG.out])
          have HLN : Hid ((tiedParts l).length = (endO l).length) := Lib.hid (by
            have h := congrArg List.length HRN.out
            rw [List.length_map, List.length_map, hlt, hlen] at h
            exact h.symm)
          clear hcmp hH hsz2 hsw HOW hval hlt hdO HKE
          rw [show (prts l).toArray.toList = prts l from rfl] at HTS
          generalize hts : (prts l).mergeSort (fun x y => !(ltOf prtC) y x) = ts at *
          go_wp2_with fail
          refine HTS.out.mono ?_
          rintro e w2 ⟨rfl, q, os, rfl⟩
          have HS1 := Lib.hid (HS.out q os)
          have HS2 := Lib.hid (HSB2.out q os)
          clear HS HSB2 HTS
          generalize sortWorld prtV wr g 0 q ts.toArray os = w2 at HS1 HS2 ⊢
          have y7 : w2.cell? ⟨w.heap.size + 1 + 1, 6, none⟩ = some (.slice (some ⟨g, 0, none⟩) (endO l).length cO) := by
            rw [World.cell?_of_block (w := wr) (HS1.out.2.block _ hbox (fun e => hne (by injection e with e; exact e.symm)))]
            exact y6
          clear y6
          go_wp2_with fail
          go_ret
          refine ⟨_, cO, ret_slice HLN.out.symm, ?_, HBE.out.trans HS2.out⟩
          have h := HS1.out.1
          rw [HRN.out, hlen, ← HLN.out] at h
          exact h
  · have HK0 : Hid (KW w (((w.alloc (.cells (Array.replicate n (.int .i64 0)) 3)).alloc (.cells (Array.replicate n (.int .i64 0)) 3)).alloc (.cells #[.slice A n c, .slice (some ⟨(w.heap.size + 1), 0, none⟩) n n, .slice (some ⟨w.heap.size, 0, none⟩) n n, .slice none 0 0, .int .u64 0, .int .i64 0, .slice none 0 0] 167)).drew w.heap.size (w.heap.size + 1 + 1) (w.heap.size + 1) w.heap.size A n c (outerT l 0) none none) := Lib.hid (by rw [show outerT l 0 = startT l.length from rfl, HL.out]; exact HSB.out.drew)
    generalize (((w.alloc (.cells (Array.replicate n (.int .i64 0)) 3)).alloc (.cells (Array.replicate n (.int .i64 0)) 3)).alloc (.cells #[.slice A n c, .slice (some ⟨(w.heap.size + 1), 0, none⟩) n n, .slice (some ⟨w.heap.size, 0, none⟩) n n, .slice none 0 0, .int .u64 0, .int .i64 0, .slice none 0 0] 167)).drew = w0 at HK0 ⊢
    clear HSA HSB hmk
    go_wp2_with fail
    go_loopw [4, 16] (fun _ x wr => ∃ (k : Nat) (S O : Option Addr), x = .int .i64 (k : Int) ∧ k ≤ n ∧ Hid (KW w wr w.heap.size (w.heap.size + 1 + 1) (w.heap.size + 1) w.heap.size A n c (outerT l k) S O)) (fun _ x _ => n - (intOf x).toNat)
    case atStart => exact ⟨0, _, _, rfl, Nat.zero_le _, HK0⟩
    case round =>
      clear HK0
      obtain ⟨k, S, O, rfl, hk, HK⟩ := hrel
      obtain ⟨cS, cO, hkr⟩ := HK.out
      have HKR := Lib.hid hkr
      have HOUT := Lib.hid (outer_out HG.out k (by rw [HL.out]; exact hk))
      clear hkr
      by_cases hlt : k < n
      · have y1 : wr.cell? ⟨w.heap.size + 1 + 1, 1, none⟩ = some (.slice (some ⟨(w.heap.size + 1), 0, none⟩) n n) := HKR.out.box.cell rfl
        have u1 : wr.cell? ⟨(w.heap.size + 1), k, none⟩ = some (.int .i64 ((outerT l k).m k : Nat)) := HKR.out.metCell hlt
        by_cases hm : (outerT l k).m k = 0
        · have HM := Lib.hid hm
          have u1' : wr.cell? ⟨(w.heap.size + 1), k, none⟩ = some (.int .i64 0) := by rw [u1, hm]; rfl
          have HNX : Hid (outerT l (k + 1) = visit l l.length k (outerT l k)) := Lib.hid (by show (if _ then _ else _) = _; rw [if_pos hm])
          clear u1 hm
          go_wp2_with fail
          refine (walk_any l w w.heap.size _ _ _ H1.out HL.out HG.out HT.out rfl l.length k (outerT l k) noP (List.range l.length) S O wr HOUT.out.inv hlt HM.out (fun x hx => hx.elim) (fun j hj _ => List.mem_range.2 hj) (by rw [List.length_range]; exact Nat.le_refl _) HOUT.out.od HK.out).mono ?_
          rintro e w7 ⟨rfl, S3, O3, hk7, _⟩
          rw [← HNX.out] at hk7
          have HK7 := Lib.hid hk7
          clear hk7 u1' y1
          go_wp2_with fail
          exact ⟨⟨k + 1, S3, O3, val_succ k, hlt, HK7⟩, meas_lt hlt⟩
        · have hm' : ((((outerT l k).m k : Nat) : Int) == 0) = false := by simp only [beq_eq_false_iff_ne]; omega
          have HNX : Hid (outerT l (k + 1) = outerT l k) := Lib.hid (by show (if _ then _ else _) = _; rw [if_neg hm])
          clear hm
          go_wp2_with fail
          exact ⟨⟨k + 1, S, O, val_succ k, hlt, by rw [HNX.out]; exact HK⟩, meas_lt hlt⟩
      · obtain rfl : k = n := by omega
        have HE : Hid ((outerT l k).out = endO l) := Lib.hid (by unfold endO; rw [HL.out])
        have HKE : Hid (KR w wr w.heap.size (w.heap.size + 1 + 1) (w.heap.size + 1) w.heap.size (boxV (w.heap.size + 1) w.heap.size A k c S (outerT l k).stk.length cS (outerT l k).on (outerT l k).now O (endO l).length cO) k ((outerT l k).met.map nv) ((outerT l k).low.map nv) S (outerT l k).stk.length cS ((outerT l k).stk.map nv) O (endO l).length cO ((endO l).map uv)) := Lib.hid (by rw [← HE.out]; exact HKR.out)
        have y6 : wr.cell? ⟨w.heap.size + 1 + 1, 6, none⟩ = some (.slice O (endO l).length cO) := HKE.out.box.cell rfl
        have HLE := Lib.hid (endO_len HG.out)
        have hsz := HKE.out.bel.size
        clear HK HKR hlt hk
        rcases Nat.eq_zero_or_pos (endO l).length with h0 | h0
        · have hl0 : endO l = [] := List.eq_nil_of_length_eq_zero h0
          have HT0 : Hid (tiedParts l = []) := Lib.hid (List.eq_nil_iff_forall_not_mem.2 fun s hs => by
            have := (parts_mem HG.out s).2 ((tp_mem HG.out s).1 hs)
            rw [hl0] at this
            cases this)
          have HOW := Lib.hid HKE.out.out
          have HBE := Lib.hid HKE.out.bel
          rw [hl0] at HOW
          rw [h0] at y6
          clear h0 HE HKE HLE
          go_wp2_with fail
          refine (Tryd.slices_SortFunc_none_f130 (α := Nat) _ _ _ _).mono ?_
          rintro e w' ⟨rfl, rfl⟩
          go_wp2_with fail
          go_ret
          exact ⟨O, cO, by rw [HT0.out]; rfl, by rw [HT0.out]; exact HOW.out, HBE.out⟩
        · have hi : Inhabited (Prt l) := ⟨⟨(endO l)[0], List.getElem_mem h0⟩⟩
          have hval : (endO l).map uv = (prts l).map prtV := by rw [prtV_map, prts_val]
          have hlen := prts_len l
          have HBE := Lib.hid HKE.out.bel
          have hbox := HKE.out.box.lt
          have HOW := HKE.out.out
          have hdO := HKE.out.dO
          rw [hval, ← hlen] at HOW
          obtain ⟨g, rfl, hg1, hg2, hH⟩ := own_holds HOW (by omega)
          have hne : g ≠ w.heap.size + 1 + 1 := (hdO g rfl).1
          have hsw : ∀ q (os : Array Obj) (ts : List (Prt l)), ts.length = (prts l).length → Tab (sortWorld prtV wr g 0 q ts.toArray os) := fun q os ts hts => HT.out.below (HBE.out.trans ((Below.refl _ wr).grown (own_sorted HOW hts q os).2 hsz (fun k hk => by injection hk with hk; omega)))
          have hcmp := prtCmp_lays HG.out (g := g) wr hsw
          have HTS := Lib.hid (Tryd.slices_SortFunc_total_f130 prtV (fun _ => rfl) prtC prt_swo 131 #[] g 0 cO (prts l).toArray wr (fun args w => enters_of Tryd.func131 (by kernel_rfl) rfl args w) hcmp hH hg2 (by have := HLE.out; have := HL.out; simp [hlen]; omega) (prt_tot HG.out))
          have hsz2 : (prts l).toArray.size = (endO l).length := by simp [hlen]
          rw [hsz2] at HTS
          have hlt : ((prts l).mergeSort fun x y => !(ltOf prtC) y x).length = (prts l).length := (List.mergeSort_perm _ _).length_eq
          have HS := Lib.hid (fun q os => own_sorted HOW hlt q os)
          have HSB2 := Lib.hid (fun q os => own_sorted_below HOW hlt hsz q os)
          have HRN : Hid (((prts l).mergeSort fun x y => !(ltOf prtC) y x).map prtV = (tiedParts l).map uv) := Lib.hid (by rw [prtV_map, prt_sorted HG.out])
          have HLN : Hid ((tiedParts l).length = (endO l).length) := Lib.hid (by
            have h := congrArg List.length HRN.out
            rw [List.length_map, List.length_map, hlt, hlen] at h
            exact h.symm)
          clear hcmp hH hsz2 hsw HOW hval hlt hdO HKE
          rw [show (prts l).toArray.toList = prts l from rfl] at HTS
          generalize hts : (prts l).mergeSort (fun x y => !(ltOf prtC) y x) = ts at *
          go_wp2_with fail
          refine HTS.out.mono ?_
          rintro e w2 ⟨rfl, q, os, rfl⟩
          have HS1 := Lib.hid (HS.out q os)
          have HS2 := Lib.hid (HSB2.out q os)
          clear HS HSB2 HTS
          generalize sortWorld prtV wr g 0 q ts.toArray os = w2 at HS1 HS2 ⊢
          have y7 : w2.cell? ⟨w.heap.size + 1 + 1, 6, none⟩ = some (.slice (some ⟨g, 0, none⟩) (endO l).length cO) := by
            rw [World.cell?_of_block (w := wr) (HS1.out.2.block _ hbox (fun e => hne (by injection e with e; exact e.symm)))]
            exact y6
          clear y6
          go_wp2_with fail
          go_ret
          refine ⟨_, cO, ret_slice HLN.out.symm, ?_, HBE.out.trans HS2.out⟩
          have h := HS1.out.1
          rw [HRN.out, hlen, ← HLN.out] at h
          exact h
end Go.Proofs.YtonmkmghpiagjaaDoor
