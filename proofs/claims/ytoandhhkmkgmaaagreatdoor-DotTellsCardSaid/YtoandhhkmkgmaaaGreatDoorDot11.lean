/- Contract: the reference's DrawnRead. Texts of at most 2000 bytes. -/
import Derived.Test.YtoandhhkmkgmaaaGreatDoorDot8
import Derived.Test.YtoandhhkmkgmaaaGreatDoorGr4
import Derived.Test.YtoandhhkmkgmaaaGreatDoorAnyX
import Derived.BigQuiet
import Derived.Deep.QuietTactic
namespace Go.Proofs.YtoandhhkmkgmaaaGreatDoor
open Go.RowKit

theorem betP_none {x h t : List UInt8} (hb : betw x h t = none) : betP x h t = ([], false) := by unfold betP; rw [hb]
theorem betP_some {x h t r : List UInt8} (hb : betw x h t = some r) : betP x h t = (r, true) := by unfold betP; rw [hb]
theorem betw_len {s h t b : List UInt8} (hb : betw s h t = some b) : b.length ≤ s.length := by
  unfold betw at hb
  split at hb
  · injection hb with hb
    subst hb
    rw [List.length_take, List.length_drop]
    omega
  · cases hb
theorem rr_false {s : List UInt8} {w W : World} {b : Nat} (hr : Blk W b 43 zeroG) (hbe : Below w.heap.size w W) (hn : refRead s = none) {L : List Value} (l2 : L[2]? = some (.pointer (some ⟨b, 0, none⟩))) (l3 : L[3]? = some (.bool false)) :
    bodyPost Tryz.prog Tryz.f25 (RRPost s w) .ret ⟨L.toArray, []⟩ W := by
  have q1 := hr.cell (j := 0) rfl
  have q2 := hr.cell (j := 1) rfl
  have q3 := hr.cell (j := 2) rfl
  have q4 := hr.cell (j := 3) rfl
  refine bodyPost_ret (v := .tuple #[.agg #[.slice none 0 0, .slice none 0 0, .int .u64 0, .int .u64 0], .bool false]) (by simp [results, Tryz.results25, go_sem, q1, q2, q3, q4, l2, l3]) rfl ?_
  exact ⟨none, 0, none, 0, [], [], 0, 0, false, rfl, Rd.nil_ _ _, Rd.nil_ _ _, hbe, hn, rfl, rfl, rfl, rfl⟩
theorem b64_zero : B64 0 := by unfold B64; omega
theorem zero_again {w W : World} {b lo gP : Nat} {L : List (List UInt8)} {K : Nat} {G : GrT} {v1 v2 : Value} (h : RI w b lo gP L K G v1 v2 W) : Blk ((((W.setCell ⟨b, 0, none⟩ (.slice none 0 0)).setCell ⟨b, 1, none⟩ (.slice none 0 0)).setCell ⟨b, 2, none⟩ (.int .u64 0)).setCell ⟨b, 3, none⟩ (.int .u64 0)) b 43 zeroG ∧ Below w.heap.size w ((((W.setCell ⟨b, 0, none⟩ (.slice none 0 0)).setCell ⟨b, 1, none⟩ (.slice none 0 0)).setCell ⟨b, 2, none⟩ (.int .u64 0)).setCell ⟨b, 3, none⟩ (.int .u64 0)) :=
  ⟨Blk.put4 h.res _ _ _ _, below_put4 h.below (Nat.le_of_eq h.hb) _ _ _ _⟩
def SplL (L : List (List UInt8)) (w : World) (e : Ending) (w' : World) : Prop := ∃ g cap, e = .returned (.slice (some ⟨g, 0, none⟩) L.length cap) ∧ w'.ownsRow w.heap.size 9 1 (.slice (some ⟨g, 0, none⟩) L.length cap) L.length (L.map sv) ∧ Below w.heap.size w w'
theorem rSplitL (c : UInt8) (s : List UInt8) {L : List (List UInt8)} (hL : L = splitC c s) (w : World) (hl : s.length ≤ 1048576) : Calls Tryz.prog 62 #[.string ⟨s.toArray⟩, .int .u8 (c.toNat : Int)] w (SplL L w) := by
  subst hL
  exact rSplit_any c s w hl
theorem own_cellsD {w : World} {lo e g n cap : Nat} {xs : List Value} (h : w.ownsRow lo e 1 (.slice (some ⟨g, 0, none⟩) n cap) n xs) : lo ≤ g ∧ g < w.heap.size ∧ ∀ (j : Nat) (u : Value), xs[j]? = some u → w.cell? ⟨g, j, none⟩ = some u := by
  refine ⟨(h.lt g rfl).1, (h.lt g rfl).2, fun j u hu => ?_⟩
  have := h.cells (g := g) rfl j u hu
  unfold Addr.add at this
  by_cases hj : j = 0
  · subst hj; simpa using this
  · simpa [hj] using this
set_option maxRecDepth 100000 in
set_option maxHeartbeats 4000000 in
theorem rDrawnRead_any (s : List UInt8) (w : World) (hs : s.length ≤ 2000) : Calls Tryz.prog 25 #[.string ⟨s.toArray⟩] w (RRPost s w) := by
  have HS := Lib.hid hs
  have CB0 := Lib.hid (fun W => rBetween_any s dHead dTail W (by omega))
  have CB : Hid (∀ W, Calls Tryz.prog 61 #[.string ⟨s.toArray⟩, .string ⟨#[100, 105, 103, 114, 97, 112, 104, 32, 123, 10]⟩, .string ⟨#[125, 10]⟩] W fun e w' => e = .returned (.tuple #[.string ⟨(betP s dHead dTail).1.toArray⟩, .bool (betP s dHead dTail).2]) ∧ W = w') := CB0
  clear CB0 hs
  obtain ⟨sb, hsb⟩ : ∃ sb : ByteArray, sb = ⟨s.toArray⟩ := ⟨_, rfl⟩
  have HSB := Lib.hid hsb
  rw [← hsb] at CB ⊢
  clear hsb
  obtain ⟨b, hbe⟩ : ∃ b, w.heap.size = b := ⟨_, rfl⟩
  have HBE := Lib.hid hbe
  cases hbw : betw s dHead dTail with
  | none =>
    have HN : Hid (refRead s = none) := Lib.hid (by unfold refRead; rw [hbw]; rfl)
    rw [betP_none hbw] at CB
    dsimp only at CB
    have HZ := Lib.hid (Blk.new w #[.slice none 0 0, .slice none 0 0, .int .u64 0, .int .u64 0] 43)
    rw [hbe] at HZ
    have HB := Lib.hid (below_new (Below.refl w.heap.size w) (.cells #[.slice none 0 0, .slice none 0 0, .int .u64 0, .int .u64 0] 43))
    clear hbw
    go_enter Tryz.func25, Tryz.ntmps25
    go_wp2_with fail
    refine (CB.out _).mono ?_
    rintro e w' ⟨rfl, rfl⟩
    go_wp2_with fail
    exact rr_false HZ.out HB.out HN.out (by rfl) (by rfl)
  | some bd =>
    have HBW := Lib.hid hbw
    have HBD : Hid (bd.length ≤ 2000) := Lib.hid (Nat.le_trans (betw_len hbw) HS.out)
    rw [betP_some hbw] at CB
    dsimp only at CB
    obtain ⟨W0, hW0⟩ : ∃ W0, W0 = (w.alloc (.cells #[.slice none 0 0, .slice none 0 0, .int .u64 0, .int .u64 0] 43)).alloc (.cells #[.slice none 0 0, .slice none 0 0, .int .u64 0, .int .u64 0] 43) := ⟨_, rfl⟩
    have HZ0 : Hid (Blk W0 b 43 zeroG ∧ Blk W0 (b + 1) 43 zeroG ∧ Below w.heap.size w W0 ∧ W0.heap.size = b + 2) := Lib.hid (by
      obtain ⟨W1, hW1, h1, h2, h3⟩ := two_allocD w (.cells #[.slice none 0 0, .slice none 0 0, .int .u64 0, .int .u64 0] 43) (.cells #[.slice none 0 0, .slice none 0 0, .int .u64 0, .int .u64 0] 43)
      rw [← hW0] at hW1
      subst hW1
      rw [hbe] at h2 h3
      exact ⟨h2, h3, h1, by rw [hW0]; simp [hbe]⟩)
    have HW0 := Lib.hid hW0
    obtain ⟨L, hL⟩ : ∃ L, L = splitC 10 bd := ⟨_, rfl⟩
    have HL := Lib.hid hL
    have HLL : Hid (L.length ≤ 2001 ∧ ∀ x ∈ L, x.length ≤ 2000) := Lib.hid ⟨by rw [hL]; have := splitC_short 10 bd; have := HBD.out; omega, fun x hx => by rw [hL] at hx; have := splitC_le 10 bd x hx; have := HBD.out; omega⟩
    have CS := Lib.hid (fun W => rSplitL 10 bd hL W (by have := HBD.out; omega))
    generalize (⟨bd.toArray⟩ : ByteArray) = bb at *
    clear hbw hW0 hL
    go_enter Tryz.func25, Tryz.ntmps25
    go_wp2_with fail
    refine (CB.out _).mono ?_
    rintro e w' ⟨rfl, rfl⟩
    go_wp2_with fail
    rw [← HW0.out]
    refine (CS.out _).mono ?_
    rintro e w2 ⟨gP, capP, rfl, hown, hb2⟩
    have HI0 : Hid (RI w b w2.heap.size gP L 0 ([], [], 0, 0) (.slice none 0 0) (.slice none 0 0) w2) := Lib.hid (by
      obtain ⟨z1, z2, z3, z4⟩ := HZ0.out
      obtain ⟨o1, o2, o3⟩ := own_cellsD hown
      refine ⟨HBE.out, below_then z3 hb2, z1.below hb2 z1.lt, ⟨by have := hb2.size; omega, z2.below hb2 z2.lt, World.ownsRow_nil _ _ _ _, World.ownsRow_nil _ _ _ _, fun g hg => (by cases hg), Nat.le_refl _⟩, ⟨by omega, o2⟩, o3, by simp, by simp, b64_zero, b64_zero, fun y hy => by cases hy⟩)
    clear hown hb2 CS CB HW0 HZ0
    have hLb := HLL.out.1
    generalize w2.heap.size = lo at *
    go_wp2_with fail
    go_loopw [8, 9, 10, 11, 12, 13, 14, 15, 16, 28] (fun _ _ _ _ _ _ _ _ _ i wr => ∃ q : Nat, q ≤ L.length ∧ i = .int .i64 (q : Int) ∧ Hid (∃ G v1 v2, refAll (L.take q) ([], [], 0, 0) = some G ∧ RI w b lo gP L q G v1 v2 wr)) (fun _ _ _ _ _ _ _ _ _ i _ => L.length - (intOf i).toNat)
    case atStart => exact ⟨0, by omega, rfl, Lib.hid ⟨_, _, _, rfl, HI0.out⟩⟩
    case round =>
      clear HI0
      obtain ⟨q, hq, rfl, HREL⟩ := hrel
      by_cases hlt : q < L.length
      · obtain ⟨x, hx⟩ : ∃ x, L[q]? = some x := ⟨_, List.getElem?_eq_getElem hlt⟩
        obtain ⟨⟨N, E, p, m⟩, v1, v2, hra, hri⟩ := HREL.out
        have hxl := HLL.out.2 x (List.mem_of_getElem? hx)
        have hc : wr.cell? ⟨gP, q, none⟩ = some (.string ⟨x.toArray⟩) := hri.rd q _ (by rw [List.getElem?_map, hx]; rfl)
        have hq2 : (q : Int) < (L.length : Int) := by omega
        have HRI := Lib.hid hri
        have HX := Lib.hid hx
        have HRA := Lib.hid hra
        clear hra hri HREL hx
        by_cases hxe : x = []
        · have HNX : Hid (∃ G v1 v2, refAll (L.take (q + 1)) ([], [], 0, 0) = some G ∧ RI w b lo gP L (q + 1) G v1 v2 wr) := Lib.hid ⟨(N, E, p, m), v1, v2, by rw [refAll_take HX.out, HRA.out, hxe]; rfl, HRI.out.more (by omega)⟩
          have he2 : (⟨x.toArray⟩ : ByteArray).toList.isEmpty = true := by rw [Lib.toList_data, hxe]; rfl
          clear hxe
          generalize (⟨x.toArray⟩ : ByteArray) = bx at *
          go_wp2_with fail
          exact ⟨⟨q + 1, by omega, by go_num, HNX.out⟩, by simp [intOf]; omega⟩
        · have he2 : (⟨x.toArray⟩ : ByteArray).toList.isEmpty = false := by
            rw [Lib.toList_data]
            cases x with
            | nil => exact absurd rfl hxe
            | cons a r => rfl
          have HXE := Lib.hid hxe
          have HXL : Hid (x.length ≤ 2000) := Lib.hid hxl
          have HRN : Hid (refLine x (N, E, p, m) = none → refRead s = none) := Lib.hid (fun h => refRead_none HBW.out (by rw [← HL.out]; exact HX.out) (by rw [← HL.out]; exact HRA.out) h)
          have HEN : Hid (∀ k, k ≤ 4 → refEnds x k (N, E, p, m) = none → refRead s = none) := Lib.hid (fun k hk h => HRN.out (refLine_none hk HXE.out h))
          have CT := Lib.hid (fun (t : List UInt8) W => rBetween_any x preT t W (by omega))
          have CE0 : Hid (∀ W, Calls Tryz.prog 61 #[.string ⟨x.toArray⟩, .string ⟨#[32, 32, 34]⟩, .string ⟨#[34, 32, 91, 93, 59]⟩] W fun e w' => e = .returned (.tuple #[.string ⟨(betP x preT (endI 0)).1.toArray⟩, .bool (betP x preT (endI 0)).2]) ∧ W = w') := Lib.hid (CT.out (endI 0))
          have CE1 : Hid (∀ W, Calls Tryz.prog 61 #[.string ⟨x.toArray⟩, .string ⟨#[32, 32, 34]⟩, .string ⟨#[34, 32, 91, 109, 97, 100, 101, 93, 59]⟩] W fun e w' => e = .returned (.tuple #[.string ⟨(betP x preT (endI 1)).1.toArray⟩, .bool (betP x preT (endI 1)).2]) ∧ W = w') := Lib.hid (CT.out (endI 1))
          have CE2 : Hid (∀ W, Calls Tryz.prog 61 #[.string ⟨x.toArray⟩, .string ⟨#[32, 32, 34]⟩, .string ⟨#[34, 32, 91, 112, 104, 111, 110, 121, 93, 59]⟩] W fun e w' => e = .returned (.tuple #[.string ⟨(betP x preT (endI 2)).1.toArray⟩, .bool (betP x preT (endI 2)).2]) ∧ W = w') := Lib.hid (CT.out (endI 2))
          have CE3 : Hid (∀ W, Calls Tryz.prog 61 #[.string ⟨x.toArray⟩, .string ⟨#[32, 32, 34]⟩, .string ⟨#[34, 32, 91, 109, 97, 100, 101, 44, 112, 104, 111, 110, 121, 93, 59]⟩] W fun e w' => e = .returned (.tuple #[.string ⟨(betP x preT (endI 3)).1.toArray⟩, .bool (betP x preT (endI 3)).2]) ∧ W = w') := Lib.hid (CT.out (endI 3))
          have CC : Hid (∀ W, Calls Tryz.prog 61 #[.string ⟨x.toArray⟩, .string ⟨#[32, 32, 34]⟩, .string ⟨#[34, 59]⟩] W fun e w' => e = .returned (.tuple #[.string ⟨(betP x preT clsT).1.toArray⟩, .bool (betP x preT clsT).2]) ∧ W = w') := Lib.hid (CT.out clsT)
          have HRE0 : Hid (RE w b lo gP L q wr.heap.size (N, E, p, m) v1 v2 (wr.alloc (.cells #[sv (endI 0), sv (endI 1), sv (endI 2), sv (endI 3)] 9))) := Lib.hid ⟨HRI.out.grow (below_new (Below.refl _ _) _), Blk.new wr _ _, HRI.out.ls.top, fun g hg => by have := (HRI.out.ls.names.lt g hg).2; omega⟩
          clear CT hxe hxl
          generalize hbx : (⟨x.toArray⟩ : ByteArray) = bx at *
          go_upto_region 10 with fail
          change Code.wp _ _ _ _ (wr.alloc (.cells #[sv (endI 0), sv (endI 1), sv (endI 2), sv (endI 3)] 9))
          generalize wr.alloc (.cells #[sv (endI 0), sv (endI 1), sv (endI 2), sv (endI 3)] 9) = wi at *
          generalize wr.heap.size = Eb at *
          obtain ⟨ht, i0, hi, hz, hs1, hby, hzs⟩ := elStrQ
          go_loopw [9, 10, 11, 12, 13, 36] (fun _ _ _ _ _ i wv => ∃ j : Nat, j ≤ 4 ∧ i = .int .i64 (j : Int) ∧ Hid (∃ N' p' m' v1', refEnds x j (N, E, p, m) = some (N', E, p', m') ∧ RE w b lo gP L q Eb (N', E, p', m') v1' v2 wv)) (fun _ _ _ _ _ i _ => 4 - (intOf i).toNat)
          case atStart => exact ⟨0, by omega, rfl, Lib.hid ⟨N, p, m, v1, rfl, HRE0.out⟩⟩
          case round =>
            clear HRE0
            obtain ⟨j, hj, rfl, HREL⟩ := hrel
            obtain ⟨N', p', m', v1', hre, hRE⟩ := HREL.out
            have HRE := Lib.hid hRE
            have HENS := Lib.hid hre
            clear hRE hre HREL
            by_cases hj4 : j < 4
            · obtain ⟨A1, c1, rfl⟩ := slice_of_own HRE.out.ri.ls.names
              dsimp only at HRE
              have hn64 : N'.length ≤ 64 := HRE.out.ri.n64
              have m0 : wr.cell? ⟨b + 1, 0, none⟩ = some (.slice A1 N'.length c1) := HRE.out.ri.ls.box.cell (j := 0) rfl
              have r0 := HRE.out.ri.res.cell (j := 0) rfl
              have r1 := HRE.out.ri.res.cell (j := 1) rfl
              have r2 := HRE.out.ri.res.cell (j := 2) rfl
              have r3 := HRE.out.ri.res.cell (j := 3) rfl
              have rf : ∀ k, wr.frozen? ⟨b, k, none⟩ = false := HRE.out.ri.res.free
              have HZB : Hid (Blk ((((wr.setCell ⟨b, 0, none⟩ (.slice none 0 0)).setCell ⟨b, 1, none⟩ (.slice none 0 0)).setCell ⟨b, 2, none⟩ (.int .u64 0)).setCell ⟨b, 3, none⟩ (.int .u64 0)) b 43 zeroG ∧ Below w.heap.size w ((((wr.setCell ⟨b, 0, none⟩ (.slice none 0 0)).setCell ⟨b, 1, none⟩ (.slice none 0 0)).setCell ⟨b, 2, none⟩ (.int .u64 0)).setCell ⟨b, 3, none⟩ (.int .u64 0))) := Lib.hid (zero_again HRE.out.ri)
              rcases (by omega : j = 0 ∨ j = 1 ∨ j = 2 ∨ j = 3) with rfl | rfl | rfl | rfl
              · have ce : wr.cell? ⟨Eb, 0, none⟩ = some (.string ⟨#[34, 32, 91, 93, 59]⟩) := HRE.out.eb.cell (j := 0) rfl
                cases hbt : betw x preT (endI 0) with
                | none =>
                  have HNX : Hid (∃ N' p' m' v1', refEnds x 1 (N, E, p, m) = some (N', E, p', m') ∧ RE w b lo gP L q Eb (N', E, p', m') v1' v2 wr) := Lib.hid ⟨N', p', m', _, by (show (refEnds x 0 (N, E, p, m)).bind (refEnd x 0) = _); rw [HENS.out, Option.bind_some]; unfold refEnd; rw [hbt], HRE.out⟩
                  rw [betP_none hbt] at CE0
                  dsimp only at CE0
                  clear hbt r0 r1 r2 r3 rf HZB m0
                  go_wp2_with fail
                  refine (CE0.out _).mono ?_
                  rintro e' w' ⟨rfl, rfl⟩
                  go_wp2_with fail
                  go_roundw
                  case rel => exact ⟨1, by omega, by go_num, HNX⟩
                  case measure => simp [intOf]
                | some r =>
                  have HRL : Hid (r.length ≤ 1048576) := Lib.hid (by have := betw_len hbt; have := HXL.out; omega)
                  have CB := Lib.hid CE0.out
                  rw [betP_some hbt] at CB
                  dsimp only at CB
                  by_cases h64 : N'.length = 64
                  · have HNO := Lib.hid (HEN.out 1 (by omega) (by (show (refEnds x 0 (N, E, p, m)).bind (refEnd x 0) = _); rw [HENS.out, Option.bind_some]; unfold refEnd; rw [hbt]; dsimp only; rw [if_pos h64]))
                    have q64 : ((N'.length : Int) == 64) = true := by simp [h64]
                    clear hbt h64
                    generalize (⟨r.toArray⟩ : ByteArray) = br at *
                    go_wp2_with fail
                    refine (CB.out _).mono ?_
                    rintro e' w' ⟨rfl, rfl⟩
                    go_wp2_with fail
                    exact rr_false HZB.out.1 HZB.out.2 HNO.out (by rfl) (by rfl)
                  · have hlt64 : N'.length < 64 := by omega
                    have q64 : ((N'.length : Int) == 64) = false := by simp; omega
                    have HNE : Hid (refEnds x 1 (N, E, p, m) = some (N' ++ [r], E, p', m')) := Lib.hid (by (show (refEnds x 0 (N, E, p, m)).bind (refEnd x 0) = _); rw [HENS.out, Option.bind_some]; unfold refEnd; rw [hbt]; dsimp only; rw [if_neg h64]; rfl)
                    have HREA := Lib.hid (HRE.out.alloc (below_new (Below.refl wr.heap.size wr) (.cells #[.string ⟨r.toArray⟩] 9)))
                    have H2 := Lib.hid (World.news_of_block (heap_alloc_new wr (.cells #[.string ⟨r.toArray⟩] 9)))
                    have HBM := Lib.hid HRE.out.ri.bm
                    have HBP := Lib.hid HRE.out.ri.bp
                    have her := or_raw m' N'.length HBM.out hlt64
                    have her2 := or_raw p' N'.length HBP.out hlt64
                    have n0 := cell_alloc m0 (.cells #[.string ⟨r.toArray⟩] 9)
                    clear hbt h64 r0 r1 r2 r3 rf HZB
                    go_wp2_with fail
                    refine (CB.out _).mono ?_
                    rintro e' w' ⟨rfl, rfl⟩
                    go_wp2_with (at_builtin; refine wpList_append_lies _ rfl _ _ 22 rfl lo 9 i0 _ 1 16 ht hi hz hs1 hby hzs (by decide) (.slice A1 N'.length c1) N'.length (N'.map sv) rfl HREA.out.ri.ls.names ⟨wr.heap.size, 0, none⟩ 1 1 [.string ⟨r.toArray⟩] rfl rfl H2.out (by intro u hu; simp at hu; subst hu; rfl) (by decide) (by unfold maxLen; omega) (by omega) HREA.out.ri.ls.top _ rfl ?_; intro g7 c7 w7 hown7 hg7 hat7 _; obtain ⟨tb, hre7⟩ := HREA.out.push (x := r) HRL.out hlt64 hg7 hown7 hat7; have HRE7 := Lib.hid hre7; have t1 := tb.cell (j := 0) rfl; have tf := tb.free 0; have u3 := hre7.ri.ls.box.cell (j := 3) rfl; have u2 := hre7.ri.ls.box.cell (j := 2) rfl; have uf := hre7.ri.ls.box.free; clear hown7 hg7 hat7 tb hre7)
                    have HREF := HRE7
                    go_roundw
                    case rel => exact ⟨1, by omega, by go_num, Lib.hid ⟨_, _, _, _, HNE.out, HREF.out⟩⟩
                    case measure => simp [intOf]
              · have ce : wr.cell? ⟨Eb, 1, none⟩ = some (.string ⟨#[34, 32, 91, 109, 97, 100, 101, 93, 59]⟩) := HRE.out.eb.cell (j := 1) rfl
                cases hbt : betw x preT (endI 1) with
                | none =>
                  have HNX : Hid (∃ N' p' m' v1', refEnds x 2 (N, E, p, m) = some (N', E, p', m') ∧ RE w b lo gP L q Eb (N', E, p', m') v1' v2 wr) := Lib.hid ⟨N', p', m', _, by (show (refEnds x 1 (N, E, p, m)).bind (refEnd x 1) = _); rw [HENS.out, Option.bind_some]; unfold refEnd; rw [hbt], HRE.out⟩
                  rw [betP_none hbt] at CE1
                  dsimp only at CE1
                  clear hbt r0 r1 r2 r3 rf HZB m0
                  go_wp2_with fail
                  refine (CE1.out _).mono ?_
                  rintro e' w' ⟨rfl, rfl⟩
                  go_wp2_with fail
                  go_roundw
                  case rel => exact ⟨2, by omega, by go_num, HNX⟩
                  case measure => simp [intOf]
                | some r =>
                  have HRL : Hid (r.length ≤ 1048576) := Lib.hid (by have := betw_len hbt; have := HXL.out; omega)
                  have CB := Lib.hid CE1.out
                  rw [betP_some hbt] at CB
                  dsimp only at CB
                  by_cases h64 : N'.length = 64
                  · have HNO := Lib.hid (HEN.out 2 (by omega) (by (show (refEnds x 1 (N, E, p, m)).bind (refEnd x 1) = _); rw [HENS.out, Option.bind_some]; unfold refEnd; rw [hbt]; dsimp only; rw [if_pos h64]))
                    have q64 : ((N'.length : Int) == 64) = true := by simp [h64]
                    clear hbt h64
                    generalize (⟨r.toArray⟩ : ByteArray) = br at *
                    go_wp2_with fail
                    refine (CB.out _).mono ?_
                    rintro e' w' ⟨rfl, rfl⟩
                    go_wp2_with fail
                    exact rr_false HZB.out.1 HZB.out.2 HNO.out (by rfl) (by rfl)
                  · have hlt64 : N'.length < 64 := by omega
                    have q64 : ((N'.length : Int) == 64) = false := by simp; omega
                    have HNE : Hid (refEnds x 2 (N, E, p, m) = some (N' ++ [r], E, p', addN m' N'.length)) := Lib.hid (by (show (refEnds x 1 (N, E, p, m)).bind (refEnd x 1) = _); rw [HENS.out, Option.bind_some]; unfold refEnd; rw [hbt]; dsimp only; rw [if_neg h64]; rfl)
                    have HREA := Lib.hid (HRE.out.alloc (below_new (Below.refl wr.heap.size wr) (.cells #[.string ⟨r.toArray⟩] 9)))
                    have H2 := Lib.hid (World.news_of_block (heap_alloc_new wr (.cells #[.string ⟨r.toArray⟩] 9)))
                    have HBM := Lib.hid HRE.out.ri.bm
                    have HBP := Lib.hid HRE.out.ri.bp
                    have her := or_raw m' N'.length HBM.out hlt64
                    have her2 := or_raw p' N'.length HBP.out hlt64
                    have n0 := cell_alloc m0 (.cells #[.string ⟨r.toArray⟩] 9)
                    clear hbt h64 r0 r1 r2 r3 rf HZB
                    go_wp2_with fail
                    refine (CB.out _).mono ?_
                    rintro e' w' ⟨rfl, rfl⟩
                    go_wp2_with (at_builtin; refine wpList_append_lies _ rfl _ _ 22 rfl lo 9 i0 _ 1 16 ht hi hz hs1 hby hzs (by decide) (.slice A1 N'.length c1) N'.length (N'.map sv) rfl HREA.out.ri.ls.names ⟨wr.heap.size, 0, none⟩ 1 1 [.string ⟨r.toArray⟩] rfl rfl H2.out (by intro u hu; simp at hu; subst hu; rfl) (by decide) (by unfold maxLen; omega) (by omega) HREA.out.ri.ls.top _ rfl ?_; intro g7 c7 w7 hown7 hg7 hat7 _; obtain ⟨tb, hre7⟩ := HREA.out.push (x := r) HRL.out hlt64 hg7 hown7 hat7; have HRE7 := Lib.hid hre7; have t1 := tb.cell (j := 0) rfl; have tf := tb.free 0; have u3 := hre7.ri.ls.box.cell (j := 3) rfl; have u2 := hre7.ri.ls.box.cell (j := 2) rfl; have uf := hre7.ri.ls.box.free; clear hown7 hg7 hat7 tb hre7)
                    have HREF := Lib.hid (HRE7.out.setM (addN_b64 HBM.out hlt64)).drw
                    go_region
                    all_goals (
                      go_wp2_with fail
                      go_roundw
                      case rel => exact ⟨2, by omega, by go_num, Lib.hid ⟨_, _, _, _, HNE.out, HREF.out⟩⟩
                      case measure => simp [intOf])
              · have ce : wr.cell? ⟨Eb, 2, none⟩ = some (.string ⟨#[34, 32, 91, 112, 104, 111, 110, 121, 93, 59]⟩) := HRE.out.eb.cell (j := 2) rfl
                cases hbt : betw x preT (endI 2) with
                | none =>
                  have HNX : Hid (∃ N' p' m' v1', refEnds x 3 (N, E, p, m) = some (N', E, p', m') ∧ RE w b lo gP L q Eb (N', E, p', m') v1' v2 wr) := Lib.hid ⟨N', p', m', _, by (show (refEnds x 2 (N, E, p, m)).bind (refEnd x 2) = _); rw [HENS.out, Option.bind_some]; unfold refEnd; rw [hbt], HRE.out⟩
                  rw [betP_none hbt] at CE2
                  dsimp only at CE2
                  clear hbt r0 r1 r2 r3 rf HZB m0
                  go_wp2_with fail
                  refine (CE2.out _).mono ?_
                  rintro e' w' ⟨rfl, rfl⟩
                  go_wp2_with fail
                  go_roundw
                  case rel => exact ⟨3, by omega, by go_num, HNX⟩
                  case measure => simp [intOf]
                | some r =>
                  have HRL : Hid (r.length ≤ 1048576) := Lib.hid (by have := betw_len hbt; have := HXL.out; omega)
                  have CB := Lib.hid CE2.out
                  rw [betP_some hbt] at CB
                  dsimp only at CB
                  by_cases h64 : N'.length = 64
                  · have HNO := Lib.hid (HEN.out 3 (by omega) (by (show (refEnds x 2 (N, E, p, m)).bind (refEnd x 2) = _); rw [HENS.out, Option.bind_some]; unfold refEnd; rw [hbt]; dsimp only; rw [if_pos h64]))
                    have q64 : ((N'.length : Int) == 64) = true := by simp [h64]
                    clear hbt h64
                    generalize (⟨r.toArray⟩ : ByteArray) = br at *
                    go_wp2_with fail
                    refine (CB.out _).mono ?_
                    rintro e' w' ⟨rfl, rfl⟩
                    go_wp2_with fail
                    exact rr_false HZB.out.1 HZB.out.2 HNO.out (by rfl) (by rfl)
                  · have hlt64 : N'.length < 64 := by omega
                    have q64 : ((N'.length : Int) == 64) = false := by simp; omega
                    have HNE : Hid (refEnds x 3 (N, E, p, m) = some (N' ++ [r], E, addN p' N'.length, m')) := Lib.hid (by (show (refEnds x 2 (N, E, p, m)).bind (refEnd x 2) = _); rw [HENS.out, Option.bind_some]; unfold refEnd; rw [hbt]; dsimp only; rw [if_neg h64]; rfl)
                    have HREA := Lib.hid (HRE.out.alloc (below_new (Below.refl wr.heap.size wr) (.cells #[.string ⟨r.toArray⟩] 9)))
                    have H2 := Lib.hid (World.news_of_block (heap_alloc_new wr (.cells #[.string ⟨r.toArray⟩] 9)))
                    have HBM := Lib.hid HRE.out.ri.bm
                    have HBP := Lib.hid HRE.out.ri.bp
                    have her := or_raw m' N'.length HBM.out hlt64
                    have her2 := or_raw p' N'.length HBP.out hlt64
                    have n0 := cell_alloc m0 (.cells #[.string ⟨r.toArray⟩] 9)
                    clear hbt h64 r0 r1 r2 r3 rf HZB
                    go_wp2_with fail
                    refine (CB.out _).mono ?_
                    rintro e' w' ⟨rfl, rfl⟩
                    go_wp2_with (at_builtin; refine wpList_append_lies _ rfl _ _ 22 rfl lo 9 i0 _ 1 16 ht hi hz hs1 hby hzs (by decide) (.slice A1 N'.length c1) N'.length (N'.map sv) rfl HREA.out.ri.ls.names ⟨wr.heap.size, 0, none⟩ 1 1 [.string ⟨r.toArray⟩] rfl rfl H2.out (by intro u hu; simp at hu; subst hu; rfl) (by decide) (by unfold maxLen; omega) (by omega) HREA.out.ri.ls.top _ rfl ?_; intro g7 c7 w7 hown7 hg7 hat7 _; obtain ⟨tb, hre7⟩ := HREA.out.push (x := r) HRL.out hlt64 hg7 hown7 hat7; have HRE7 := Lib.hid hre7; have t1 := tb.cell (j := 0) rfl; have tf := tb.free 0; have u3 := hre7.ri.ls.box.cell (j := 3) rfl; have u2 := hre7.ri.ls.box.cell (j := 2) rfl; have uf := hre7.ri.ls.box.free; clear hown7 hg7 hat7 tb hre7)
                    have HREF := Lib.hid (HRE7.out.setP (addN_b64 HBP.out hlt64)).drw
                    go_region
                    all_goals (
                      go_wp2_with fail
                      go_roundw
                      case rel => exact ⟨3, by omega, by go_num, Lib.hid ⟨_, _, _, _, HNE.out, HREF.out⟩⟩
                      case measure => simp [intOf])
              · have ce : wr.cell? ⟨Eb, 3, none⟩ = some (.string ⟨#[34, 32, 91, 109, 97, 100, 101, 44, 112, 104, 111, 110, 121, 93, 59]⟩) := HRE.out.eb.cell (j := 3) rfl
                cases hbt : betw x preT (endI 3) with
                | none =>
                  have HNX : Hid (∃ N' p' m' v1', refEnds x 4 (N, E, p, m) = some (N', E, p', m') ∧ RE w b lo gP L q Eb (N', E, p', m') v1' v2 wr) := Lib.hid ⟨N', p', m', _, by (show (refEnds x 3 (N, E, p, m)).bind (refEnd x 3) = _); rw [HENS.out, Option.bind_some]; unfold refEnd; rw [hbt], HRE.out⟩
                  rw [betP_none hbt] at CE3
                  dsimp only at CE3
                  clear hbt r0 r1 r2 r3 rf HZB m0
                  go_wp2_with fail
                  refine (CE3.out _).mono ?_
                  rintro e' w' ⟨rfl, rfl⟩
                  go_wp2_with fail
                  go_roundw
                  case rel => exact ⟨4, by omega, by go_num, HNX⟩
                  case measure => simp [intOf]
                | some r =>
                  have HRL : Hid (r.length ≤ 1048576) := Lib.hid (by have := betw_len hbt; have := HXL.out; omega)
                  have CB := Lib.hid CE3.out
                  rw [betP_some hbt] at CB
                  dsimp only at CB
                  by_cases h64 : N'.length = 64
                  · have HNO := Lib.hid (HEN.out 4 (by omega) (by (show (refEnds x 3 (N, E, p, m)).bind (refEnd x 3) = _); rw [HENS.out, Option.bind_some]; unfold refEnd; rw [hbt]; dsimp only; rw [if_pos h64]))
                    have q64 : ((N'.length : Int) == 64) = true := by simp [h64]
                    clear hbt h64
                    generalize (⟨r.toArray⟩ : ByteArray) = br at *
                    go_wp2_with fail
                    refine (CB.out _).mono ?_
                    rintro e' w' ⟨rfl, rfl⟩
                    go_wp2_with fail
                    exact rr_false HZB.out.1 HZB.out.2 HNO.out (by rfl) (by rfl)
                  · have hlt64 : N'.length < 64 := by omega
                    have q64 : ((N'.length : Int) == 64) = false := by simp; omega
                    have HNE : Hid (refEnds x 4 (N, E, p, m) = some (N' ++ [r], E, addN p' N'.length, addN m' N'.length)) := Lib.hid (by (show (refEnds x 3 (N, E, p, m)).bind (refEnd x 3) = _); rw [HENS.out, Option.bind_some]; unfold refEnd; rw [hbt]; dsimp only; rw [if_neg h64]; rfl)
                    have HREA := Lib.hid (HRE.out.alloc (below_new (Below.refl wr.heap.size wr) (.cells #[.string ⟨r.toArray⟩] 9)))
                    have H2 := Lib.hid (World.news_of_block (heap_alloc_new wr (.cells #[.string ⟨r.toArray⟩] 9)))
                    have HBM := Lib.hid HRE.out.ri.bm
                    have HBP := Lib.hid HRE.out.ri.bp
                    have her := or_raw m' N'.length HBM.out hlt64
                    have her2 := or_raw p' N'.length HBP.out hlt64
                    have n0 := cell_alloc m0 (.cells #[.string ⟨r.toArray⟩] 9)
                    clear hbt h64 r0 r1 r2 r3 rf HZB
                    go_wp2_with fail
                    refine (CB.out _).mono ?_
                    rintro e' w' ⟨rfl, rfl⟩
                    go_wp2_with (at_builtin; refine wpList_append_lies _ rfl _ _ 22 rfl lo 9 i0 _ 1 16 ht hi hz hs1 hby hzs (by decide) (.slice A1 N'.length c1) N'.length (N'.map sv) rfl HREA.out.ri.ls.names ⟨wr.heap.size, 0, none⟩ 1 1 [.string ⟨r.toArray⟩] rfl rfl H2.out (by intro u hu; simp at hu; subst hu; rfl) (by decide) (by unfold maxLen; omega) (by omega) HREA.out.ri.ls.top _ rfl ?_; intro g7 c7 w7 hown7 hg7 hat7 _; obtain ⟨tb, hre7⟩ := HREA.out.push (x := r) HRL.out hlt64 hg7 hown7 hat7; have HRE7 := Lib.hid hre7; have t1 := tb.cell (j := 0) rfl; have tf := tb.free 0; have u3 := hre7.ri.ls.box.cell (j := 3) rfl; have u2 := hre7.ri.ls.box.cell (j := 2) rfl; have uf := hre7.ri.ls.box.free; clear hown7 hg7 hat7 tb hre7)
                    have HREM := Lib.hid (HRE7.out.setM (addN_b64 HBM.out hlt64)).drw
                    have HREF := Lib.hid (HREM.out.setP (addN_b64 HBP.out hlt64)).drw
                    have y2 := HREM.out.ri.ls.box.cell (j := 2) rfl
                    have yf := HREM.out.ri.ls.box.free
                    go_region
                    all_goals (
                      go_wp2_with fail
                      go_region
                      all_goals (
                        go_wp2_with fail
                        go_roundw
                        case rel => exact ⟨4, by omega, by go_num, Lib.hid ⟨_, _, _, _, HNE.out, HREF.out⟩⟩
                        case measure => simp [intOf]))
            · obtain rfl : j = 4 := by omega
              clear hj hj4
              have hn64 : N'.length ≤ 64 := HRE.out.ri.n64
              have HRL0 := Lib.hid HXE.out
              cases hbt : betw x preT clsT with
              | none =>
                have HNX : Hid (∃ G v1 v2, refAll (L.take (q + 1)) ([], [], 0, 0) = some G ∧ RI w b lo gP L (q + 1) G v1 v2 wr) := Lib.hid ⟨(N', E, p', m'), _, _, by
                  rw [refAll_take HX.out, HRA.out, Option.bind_some]
                  unfold refLine
                  rw [if_neg HXE.out, HENS.out, Option.bind_some]
                  unfold refTwo
                  rw [hbt], HRE.out.ri.more (by omega)⟩
                rw [betP_none hbt] at CC
                dsimp only at CC
                clear hbt
                go_wp2_with fail
                refine (CC.out _).mono ?_
                rintro e' w' ⟨rfl, rfl⟩
                go_wp2_with fail
                go_roundw
                case rel => exact ⟨q + 1, by omega, by go_num, HNX⟩
                case measure => simp [intOf]; omega
              | some t =>
                have HTL : Hid (t.length ≤ 2000) := Lib.hid (by have := betw_len hbt; have := HXL.out; omega)
                have HTW : Hid (refLine x (N, E, p, m) = match splitC 34 t with | [a, _, c] => if placeOf N' a < 0 ∨ placeOf N' c < 0 then none else some (N', E ++ [(placeOf N' a, placeOf N' c)], p', m') | _ => none) := Lib.hid (by
                  unfold refLine
                  rw [if_neg HXE.out, HENS.out, Option.bind_some]
                  unfold refTwo
                  rw [hbt]
                  rfl)
                rw [betP_some hbt] at CC
                dsimp only at CC
                clear hbt
                obtain ⟨L2, hL2⟩ : ∃ L2, L2 = splitC 34 t := ⟨_, rfl⟩
                have CS2 := Lib.hid (fun W => rSplitL 34 t hL2 W (by have := HTL.out; omega))
                rw [← hL2] at HTW
                have HL2 := Lib.hid hL2
                clear hL2
                generalize (⟨t.toArray⟩ : ByteArray) = bt at *
                by_cases h3 : L2.length = 3
                · obtain ⟨a, d, c, rfl⟩ := len_three h3
                  dsimp only at HTW
                  obtain ⟨A1, c1, rfl⟩ := slice_of_own HRE.out.ri.ls.names
                  obtain ⟨A2, c2, rfl⟩ := slice_of_own HRE.out.ri.ls.edges
                  dsimp only at HRE
                  have CPA := Lib.hid (fun W (hr : Rd W A1 (N'.map sv)) => placeF_any (c := c1) N' a W hr rfl (by omega))
                  have CPC := Lib.hid (fun W (hr : Rd W A1 (N'.map sv)) => placeF_any (c := c1) N' c W hr rfl (by omega))
                  generalize hpa : placeOf N' a = pa at *
                  generalize hpc : placeOf N' c = pc at *
                  clear hpa hpc h3
                  have hsv : ∀ y : List UInt8, sv y = .string ⟨y.toArray⟩ := fun _ => rfl
                  rw [hsv a] at CPA
                  rw [hsv c] at CPC
                  go_wp2_with fail
                  refine (CC.out _).mono ?_
                  rintro e' w' ⟨rfl, rfl⟩
                  go_wp2_with fail
                  refine (CS2.out _).mono ?_
                  rintro e' w5 ⟨g2, cap2, rfl, hown2, hb5⟩
                  obtain ⟨hg20, _, o3⟩ := own_cellsD hown2
                  have HG2 : Hid (∀ g, (Value.slice A2 E.length c2).ownBlock = some g → g ≠ g2) := Lib.hid (fun g hg => by have := (HRE.out.ri.ls.edges.lt g hg).2; omega)
                  have y0 : w5.cell? ⟨g2, 0, none⟩ = some (.string ⟨a.toArray⟩) := o3 0 _ rfl
                  have y2 : w5.cell? ⟨g2, 2, none⟩ = some (.string ⟨c.toArray⟩) := o3 2 _ rfl
                  have HR5 := Lib.hid (HRE.out.ri.grow hb5)
                  have m0 : w5.cell? ⟨b + 1, 0, none⟩ = some (.slice A1 N'.length c1) := HR5.out.ls.box.cell (j := 0) rfl
                  have m1 : w5.cell? ⟨b + 1, 1, none⟩ = some (.slice A2 E.length c2) := HR5.out.ls.box.cell (j := 1) rfl
                  have HRD : Hid (Rd w5 A1 (N'.map sv)) := Lib.hid (rd_of_ownK HR5.out.ls.names)
                  clear hown2 hb5 o3 hsv hg20
                  by_cases ha : pa < 0
                  · have HNO : Hid (refRead s = none) := Lib.hid (HRN.out (by rw [HTW.out, if_pos (.inl ha)]))
                    go_upto_region 26 with fail
                    go_quiet ((first | (go_at_call 43; (with_reducible exact quiet_left (CPA.out _ (HRD.out.drewN _)))) | (go_at_call 43; (with_reducible exact quiet_left (CPC.out _ (HRD.out.drewN _))))))
                    have HR6 := Lib.hid (HR5.out.grow (below_of_drewN _ nq))
                    clear m0 m1 y0 y2 HRD HR5
                    generalize w5.drewN nq = w6 at *
                    have r0 := HR6.out.res.cell (j := 0) rfl
                    have r1 := HR6.out.res.cell (j := 1) rfl
                    have r2 := HR6.out.res.cell (j := 2) rfl
                    have r3 := HR6.out.res.cell (j := 3) rfl
                    have rf : ∀ k, w6.frozen? ⟨b, k, none⟩ = false := HR6.out.res.free
                    have HZB := Lib.hid (zero_again HR6.out)
                    go_wp2_with fail
                    exact rr_false HZB.out.1 HZB.out.2 HNO.out (by rfl) (by rfl)
                  · have hda : decide (pa < 0) = false := by simp; omega
                    by_cases hc : pc < 0
                    · have HNO : Hid (refRead s = none) := Lib.hid (HRN.out (by rw [HTW.out, if_pos (.inr hc)]))
                      clear ha
                      go_upto_region 26 with fail
                      go_quiet ((first | (go_at_call 43; (with_reducible exact quiet_left (CPA.out _ (HRD.out.drewN _)))) | (go_at_call 43; (with_reducible exact quiet_left (CPC.out _ (HRD.out.drewN _))))))
                      have HR6 := Lib.hid (HR5.out.grow (below_of_drewN _ nq))
                      clear m0 m1 y0 y2 HRD HR5
                      generalize w5.drewN nq = w6 at *
                      have r0 := HR6.out.res.cell (j := 0) rfl
                      have r1 := HR6.out.res.cell (j := 1) rfl
                      have r2 := HR6.out.res.cell (j := 2) rfl
                      have r3 := HR6.out.res.cell (j := 3) rfl
                      have rf : ∀ k, w6.frozen? ⟨b, k, none⟩ = false := HR6.out.res.free
                      have HZB := Lib.hid (zero_again HR6.out)
                      go_wp2_with fail
                      exact rr_false HZB.out.1 HZB.out.2 HNO.out (by rfl) (by rfl)
                    · have hdc : decide (pc < 0) = false := by simp; omega
                      have HNX0 : Hid (refAll (L.take (q + 1)) ([], [], 0, 0) = some (N', E ++ [(pa, pc)], p', m')) := Lib.hid (by
                        rw [refAll_take HX.out, HRA.out, Option.bind_some, HTW.out, if_neg (by omega)])
                      clear ha hc
                      go_upto_region 26 with fail
                      go_quiet ((first | (go_at_call 43; (with_reducible exact quiet_left (CPA.out _ (HRD.out.drewN _)))) | (go_at_call 43; (with_reducible exact quiet_left (CPC.out _ (HRD.out.drewN _))))))
                      have HR6 := Lib.hid (HR5.out.grow (below_of_drewN _ nq))
                      have z0 : (w5.drewN nq).cell? ⟨g2, 0, none⟩ = some (.string ⟨a.toArray⟩) := y0
                      have z2 : (w5.drewN nq).cell? ⟨g2, 2, none⟩ = some (.string ⟨c.toArray⟩) := y2
                      clear m0 m1 y0 y2 HRD HR5 hda hdc
                      generalize w5.drewN nq = w6 at *
                      have m0 : w6.cell? ⟨b + 1, 0, none⟩ = some (.slice A1 N'.length c1) := HR6.out.ls.box.cell (j := 0) rfl
                      have m1 : w6.cell? ⟨b + 1, 1, none⟩ = some (.slice A2 E.length c2) := HR6.out.ls.box.cell (j := 1) rfl
                      obtain ⟨ht', i0', hi', hz', hs1', hby', hzs'⟩ := elEdgeD
                      have HRD0 : Hid (Rd w6 A1 (N'.map sv)) := Lib.hid (rd_of_ownK HR6.out.ls.names)
                      have HRD1 : Hid (Rd w6.drew A1 (N'.map sv)) := Lib.hid HRD0.out
                      have hb0 : Below w6.heap.size w6 (w6.drew.alloc (.cells #[.int .i64 pa, .int .i64 pc] 102)) := drew_alloc_below w6 _
                      have HRA2 := Lib.hid (HR6.out.grow hb0)
                      have H2 := Lib.hid (World.news_of_block (heap_alloc_new w6.drew (.cells #[.int .i64 pa, .int .i64 pc] 102)))
                      have HT9 : Hid (∀ w9, (w6.drew.alloc (.cells #[.int .i64 pa, .int .i64 pc] 102)).grownBy w9 (Value.slice A2 E.length c2).ownBlock → w9.cell? ⟨b + 1, 1, none⟩ = some (.slice A2 E.length c2) ∧ w9.frozen? ⟨b + 1, 1, none⟩ = false) := Lib.hid (fun w9 hg => by
                        have hbox : Blk w9 (b + 1) 43 [.slice A1 N'.length c1, .slice A2 E.length c2, .int .u64 (p' : Int), .int .u64 (m' : Int)] := by
                          unfold Blk
                          rw [hg.block (b + 1) HRA2.out.ls.box.lt (fun e => by have := own_lo HRA2.out.ls.edges (b + 1) e.symm; have := HRA2.out.ls.blo; omega)]
                          exact HRA2.out.ls.box
                        exact ⟨hbox.cell (j := 1) rfl, hbox.free 1⟩)
                      have a1 : (w6.drew.alloc (.cells #[.int .i64 pa, .int .i64 pc] 102)).cell? ⟨b + 1, 1, none⟩ = some (.slice A2 E.length c2) := cell_alloc (w := w6.drew) m1 _
                      have b1 : (w6.alloc (.cells #[.int .i64 pa, .int .i64 pc] 102)).cell? ⟨b + 1, 1, none⟩ = some (.slice A2 E.length c2) := cell_alloc m1 _
                      have d0 : w6.drew.cell? ⟨b + 1, 0, none⟩ = some (.slice A1 N'.length c1) := m0
                      have d1 : w6.drew.cell? ⟨b + 1, 1, none⟩ = some (.slice A2 E.length c2) := m1
                      have d2 : w6.drew.cell? ⟨g2, 0, none⟩ = some (.string ⟨a.toArray⟩) := z0
                      have d3 : w6.drew.cell? ⟨g2, 2, none⟩ = some (.string ⟨c.toArray⟩) := z2
                      have HSS : Hid (w6.drew.cell? ⟨b + 1, 0, none⟩ = some (.slice A1 N'.length c1) ∧ w6.drew.cell? ⟨b + 1, 1, none⟩ = some (.slice A2 E.length c2) ∧ w6.drew.cell? ⟨g2, 0, none⟩ = some (.string ⟨a.toArray⟩) ∧ w6.drew.cell? ⟨g2, 2, none⟩ = some (.string ⟨c.toArray⟩)) := Lib.hid ⟨m0, m1, z0, z2⟩
                      have HSA : Hid ((w6.drew.alloc (.cells #[.int .i64 pa, .int .i64 pc] 102)).cell? ⟨b + 1, 0, none⟩ = some (.slice A1 N'.length c1) ∧ (w6.drew.alloc (.cells #[.int .i64 pa, .int .i64 pc] 102)).cell? ⟨b + 1, 1, none⟩ = some (.slice A2 E.length c2) ∧ (w6.drew.alloc (.cells #[.int .i64 pa, .int .i64 pc] 102)).cell? ⟨g2, 0, none⟩ = some (.string ⟨a.toArray⟩) ∧ (w6.drew.alloc (.cells #[.int .i64 pa, .int .i64 pc] 102)).cell? ⟨g2, 2, none⟩ = some (.string ⟨c.toArray⟩)) := Lib.hid ⟨cell_alloc (w := w6.drew) m0 _, cell_alloc (w := w6.drew) m1 _, cell_alloc (w := w6.drew) z0 _, cell_alloc (w := w6.drew) z2 _⟩
                      have HKS : Hid (∀ w9, (w6.drew.alloc (.cells #[.int .i64 pa, .int .i64 pc] 102)).grownBy w9 (Value.slice A2 E.length c2).ownBlock → w9.cell? ⟨b + 1, 0, none⟩ = some (.slice A1 N'.length c1) ∧ w9.cell? ⟨b + 1, 1, none⟩ = some (.slice A2 E.length c2) ∧ w9.cell? ⟨g2, 0, none⟩ = some (.string ⟨a.toArray⟩) ∧ w9.cell? ⟨g2, 2, none⟩ = some (.string ⟨c.toArray⟩)) := Lib.hid (fun w9 hg => by
                        have hbox : Blk w9 (b + 1) 43 [.slice A1 N'.length c1, .slice A2 E.length c2, .int .u64 (p' : Int), .int .u64 (m' : Int)] := by
                          unfold Blk
                          rw [hg.block (b + 1) HRA2.out.ls.box.lt (fun e => by have := own_lo HRA2.out.ls.edges (b + 1) e.symm; have := HRA2.out.ls.blo; omega)]
                          exact HRA2.out.ls.box
                        have hg2b : w9.heap[g2]? = (w6.drew.alloc (.cells #[.int .i64 pa, .int .i64 pc] 102)).heap[g2]? := hg.block g2 (lt_of_cell' HSA.out.2.2.1) (fun e => HG2.out g2 e.symm rfl)
                        exact ⟨hbox.cell (j := 0) rfl, hbox.cell (j := 1) rfl, (World.cell?_of_block hg2b).trans HSA.out.2.2.1, (World.cell?_of_block hg2b).trans HSA.out.2.2.2⟩)
                      have hEq : E.length ≤ 2001 := by have := HR6.out.el; have := HLL.out.1; simp at *; omega
                      clear hb0 HBW HBD HLL HRN HEN HENS HRL0 HTL HTW CS2 CC CE0 CE1 CE2 CE3 HXE HXL HRE HL2
                      go_upto_region 28 with fail
                      refine wp_region_x (fun W => W.cell? ⟨b + 1, 0, none⟩ = some (.slice A1 N'.length c1) ∧ W.cell? ⟨b + 1, 1, none⟩ = some (.slice A2 E.length c2) ∧ W.cell? ⟨g2, 0, none⟩ = some (.string ⟨a.toArray⟩) ∧ W.cell? ⟨g2, 2, none⟩ = some (.string ⟨c.toArray⟩)) 18 (by kernel_rfl) ?_
                      refine wpAnyX_take (i := 0) (v := ?v1) rfl (by kernel_rfl) (by kernel_rfl) (by kernel_rfl) (by kernel_rfl) (fun _ _ _ h => h) (Or.inl ⟨by rfl, ?hy1⟩) HSS.out ?rest1
                      case hy1 => (intro W hSw; (try dsimp only at hSw); obtain ⟨hS1, hS2, hS3, hS4⟩ := hSw; go_simp; try with_reducible rfl)
                      refine wpAnyX_take (i := 1) (v := ?v2) rfl (by kernel_rfl) (by kernel_rfl) (by kernel_rfl) (by kernel_rfl) (fun _ _ _ h => h) (Or.inl ⟨by rfl, ?hy2⟩) HSS.out ?rest2
                      case hy2 => (intro W hSw; (try dsimp only at hSw); obtain ⟨hS1, hS2, hS3, hS4⟩ := hSw; go_simp; try with_reducible rfl)
                      refine wpAnyX_take (i := 2) (v := ?v3) rfl (by kernel_rfl) (by kernel_rfl) (by kernel_rfl) (by kernel_rfl) (fun _ _ _ h => h) (Or.inl ⟨by rfl, ?hy3⟩) HSS.out ?rest3
                      case hy3 => (intro W hSw; (try dsimp only at hSw); obtain ⟨hS1, hS2, hS3, hS4⟩ := hSw; go_simp; try with_reducible rfl)
                      refine wpAnyX_take (i := 3) (v := ?v4) rfl (by kernel_rfl) (by kernel_rfl) (by kernel_rfl) (by kernel_rfl) (fun _ _ _ h => h) (Or.inl ⟨by rfl, ?hy4⟩) HSS.out ?rest4
                      case hy4 => (intro W hSw; (try dsimp only at hSw); obtain ⟨hS1, hS2, hS3, hS4⟩ := hSw; go_simp; try with_reducible rfl)
                      refine wpAnyX_take (i := 4) (v := ?v5) rfl (by kernel_rfl) (by kernel_rfl) (by kernel_rfl) (by kernel_rfl) (fun _ _ _ h => h) (Or.inl ⟨by rfl, ?hy5⟩) HSS.out ?rest5
                      case hy5 => (intro W hSw; (try dsimp only at hSw); obtain ⟨hS1, hS2, hS3, hS4⟩ := hSw; go_simp; try with_reducible rfl)
                      refine wpAnyX_take (i := 5) (v := ?v6) rfl (by kernel_rfl) (by kernel_rfl) (by kernel_rfl) (by kernel_rfl) (fun _ _ _ h => h) (Or.inl ⟨by rfl, ?hy6⟩) HSS.out ?rest6
                      case hy6 => (intro W hSw; (try dsimp only at hSw); obtain ⟨hS1, hS2, hS3, hS4⟩ := hSw; go_simp; try with_reducible rfl)
                      refine wpAnyX_take (i := 6) (v := ?v7) rfl (by kernel_rfl) (by kernel_rfl) (by kernel_rfl) (by kernel_rfl) (fun _ _ _ h => h) (Or.inl ⟨by rfl, ?hy7⟩) HSS.out ?rest7
                      case hy7 => (intro W hSw; (try dsimp only at hSw); obtain ⟨hS1, hS2, hS3, hS4⟩ := hSw; go_simp; try with_reducible rfl)
                      refine wpAnyX_take (i := 8) (v := ?v8) rfl (by kernel_rfl) (by kernel_rfl) (by kernel_rfl) (by kernel_rfl) (fun _ _ _ h => h) (Or.inl ⟨by rfl, ?hy8⟩) HSS.out ?rest8
                      case hy8 => (intro W hSw; (try dsimp only at hSw); obtain ⟨hS1, hS2, hS3, hS4⟩ := hSw; go_simp; try with_reducible rfl)
                      refine wpAnyX_take (i := 9) (v := ?v9) rfl (by kernel_rfl) (by kernel_rfl) (by kernel_rfl) (by kernel_rfl) (fun _ _ _ h => h) (Or.inl ⟨by rfl, ?hy9⟩) HSS.out ?rest9
                      case hy9 => (intro W hSw; (try dsimp only at hSw); obtain ⟨hS1, hS2, hS3, hS4⟩ := hSw; go_simp; try with_reducible rfl)
                      refine wpAnyX_take (i := 10) (v := ?v10) rfl (by kernel_rfl) (by kernel_rfl) (by kernel_rfl) (by kernel_rfl) (fun _ _ _ h => h) (Or.inl ⟨by rfl, ?hy10⟩) HSS.out ?rest10
                      case hy10 => (intro W hSw; (try dsimp only at hSw); obtain ⟨hS1, hS2, hS3, hS4⟩ := hSw; go_simp; try with_reducible rfl)
                      refine wpAnyX_take (i := 11) (v := ?v11) rfl (by kernel_rfl) (by kernel_rfl) (by kernel_rfl) (by kernel_rfl) (fun _ _ _ h => h) (Or.inl ⟨by rfl, ?hy11⟩) HSS.out ?rest11
                      case hy11 => (intro W hSw; (try dsimp only at hSw); obtain ⟨hS1, hS2, hS3, hS4⟩ := hSw; go_simp; try with_reducible rfl)
                      refine wpAnyX_take (i := 12) (v := ?v12) rfl (by kernel_rfl) (by kernel_rfl) (by kernel_rfl) (by kernel_rfl) (fun _ _ _ h => h) (Or.inl ⟨by rfl, ?hy12⟩) HSS.out ?rest12
                      case hy12 => (intro W hSw; (try dsimp only at hSw); obtain ⟨hS1, hS2, hS3, hS4⟩ := hSw; go_simp; try with_reducible rfl)
                      refine wpAnyX_one (i := 7) (by kernel_rfl) rfl (fun K hK => ?_)
                      rw [if_pos (by rfl)]
                      go_simp
                      go_at_call 43
                      refine (CPA.out _ HRD1.out).mono ?_
                      rintro e5 u5 ⟨rfl, rfl⟩
                      refine hK _ _ (fun _ => HSS.out) ?_
                      clear hK K
                      refine wpAnyX_one (i := 13) (by kernel_rfl) rfl (fun K hK => ?_)
                      rw [if_pos (by rfl)]
                      go_simp
                      go_at_call 43
                      refine (CPC.out _ HRD1.out).mono ?_
                      rintro e5 u5 ⟨rfl, rfl⟩
                      refine hK _ _ (fun _ => HSS.out) ?_
                      clear hK K
                      refine wpAnyX_take (i := 14) (v := ?v13) rfl (by kernel_rfl) (by kernel_rfl) (by kernel_rfl) (by kernel_rfl) (fun _ _ _ h => h) (Or.inl ⟨by rfl, ?hy13⟩) HSS.out ?rest13
                      case hy13 => (intro W hSw; (try dsimp only at hSw); obtain ⟨hS1, hS2, hS3, hS4⟩ := hSw; go_simp; try with_reducible rfl)
                      refine wpAnyX_one (i := 15) (by kernel_rfl) rfl (fun K hK => ?_)
                      rw [if_pos (by rfl)]
                      go_simp
                      refine hK _ _ (fun _ => HSA.out) ?_
                      clear hK K
                      refine wpAnyX_one (i := 16) (by kernel_rfl) rfl (fun K hK => ?_)
                      refine step_append_lies _ rfl (.tmp 109) (.tmp 123) 40 rfl lo 102 i0' _ 2 16 ht' hi' hz' hs1' hby' hzs' (by decide) (.slice A2 E.length c2) E.length (eV E) (by simp [Act.eval]) HRA2.out.ls.edges ⟨w6.heap.size, 0, none⟩ 1 1 [.int .i64 pa, .int .i64 pc] (by simp [Act.eval]) rfl H2.out (by intro u hu; simp at hu; rcases hu with rfl | rfl <;> rfl) (by decide) (by unfold maxLen; omega) (by omega) HRA2.out.ls.top _ rfl ?_
                      intro g9 c9 w9 hown9 hg9 hat9 _
                      obtain ⟨t1, tf⟩ := HT9.out w9 hg9
                      have HS9 := Lib.hid (HKS.out w9 hg9)
                      refine hK _ _ (fun _ => HS9.out) ?_
                      clear hK K
                      refine wpAnyX_take (i := 17) (v := ?v14) rfl (by kernel_rfl) (by kernel_rfl) (by kernel_rfl) (by kernel_rfl) (fun _ _ _ h => h) (Or.inl ⟨by rfl, ?hy14⟩) HS9.out ?rest14
                      case hy14 => (intro W hSw; (try dsimp only at hSw); obtain ⟨hS1, hS2, hS3, hS4⟩ := hSw; go_simp; try with_reducible rfl)
                      refine wpAnyX_one (i := 18) (by kernel_rfl) rfl (fun K hK => ?_)
                      rw [if_pos (by rfl)]
                      go_simp
                      refine hK _ _ (fun h => absurd rfl h) ?_
                      clear hK K
                      refine wpAnyX_done (by kernel_rfl) ?_ _
                      all_goals (
                        have HR9 := Lib.hid (HRA2.out.pushE (e := (pa, pc)) hg9 hown9 (hat9.imp id (fun e => e)))
                        clear hown9 hg9 hat9 t1 tf a1 b1 d0 d1 d2 d3 z0 z2 m0 m1
                        go_simp
                        go_wp2_with fail
                        go_roundw
                        case rel => exact ⟨q + 1, by omega, by go_num, Lib.hid ⟨_, _, _, HNX0.out, HR9.out⟩⟩
                        case measure => simp [intOf]; omega)
                · have HNO : Hid (refRead s = none) := Lib.hid (HRN.out (by
                    rw [HTW.out]
                    split
                    · exact absurd rfl h3
                    · rfl))
                  have d3 : ((L2.length : Int) == 3) = false := by simp; omega
                  have d3' : ((L2.length : Int) != 3) = true := by simp; omega
                  clear h3
                  go_wp2_with fail
                  refine (CC.out _).mono ?_
                  rintro e' w' ⟨rfl, rfl⟩
                  go_wp2_with fail
                  refine (CS2.out _).mono ?_
                  rintro e' w5 ⟨g2, cap2, rfl, hown2, hb5⟩
                  have HR5 := Lib.hid (HRE.out.ri.grow hb5)
                  clear hown2 hb5
                  go_upto_region 26 with fail
                  go_quiet (fail)
                  have HR6 := Lib.hid (HR5.out.grow (below_of_drewN _ nq))
                  generalize w5.drewN nq = w6 at *
                  have r0 := HR6.out.res.cell (j := 0) rfl
                  have r1 := HR6.out.res.cell (j := 1) rfl
                  have r2 := HR6.out.res.cell (j := 2) rfl
                  have r3 := HR6.out.res.cell (j := 3) rfl
                  have rf : ∀ k, w6.frozen? ⟨b, k, none⟩ = false := HR6.out.res.free
                  have HZB := Lib.hid (zero_again HR6.out)
                  go_wp2_with fail
                  exact rr_false HZB.out.1 HZB.out.2 HNO.out (by rfl) (by rfl)

      · obtain rfl : q = L.length := by omega
        obtain ⟨⟨N, E, p, m⟩, v1, v2, hra, hri⟩ := HREL.out
        rw [List.take_length] at hra
        have HRI := Lib.hid hri
        have hqn : ¬ (L.length : Int) < (L.length : Int) := by omega
        have HRR : Hid (refRead s = if grErr N E p m = 0 ∧ drawT N E p m = s then some (N, E, p, m) else none) := Lib.hid (by
          unfold refRead
          rw [HBW.out, Option.bind_some, ← HL.out, hra, Option.bind_some])
        obtain ⟨A1, c1, rfl⟩ := slice_of_own hri.ls.names
        obtain ⟨A2, c2, rfl⟩ := slice_of_own hri.ls.edges
        dsimp only at HRI hri
        have hn64 : N.length ≤ 64 := hri.n64
        have hel : E.length ≤ L.length := hri.el
        have hG : GrIn A1 N.length A2 E.length N E p m wr := ⟨rd_of_ownK hri.ls.names, rd_of_ownK hri.ls.edges, rfl, rfl, by omega, by omega, fun y hy => by have := hri.nm y hy; omega, hri.bp, hri.bm⟩
        have CF := Lib.hid (rGraphFault_any (c1 := c1) (c2 := c2) wr hG)
        have HGI := Lib.hid hG
        have HOK : Hid (grErr N E p m = 0 → GOk N E p m) := Lib.hid (gOk hri.bp hri.bm)
        have x0 := hri.ls.box.cell (j := 0) rfl
        have x1 := hri.ls.box.cell (j := 1) rfl
        have x2 := hri.ls.box.cell (j := 2) rfl
        have x3 := hri.ls.box.cell (j := 3) rfl
        dsimp only at x0 x1 x2 x3
        unfold gv at CF
        clear hra hri hG HREL
        by_cases he : grErr N E p m = 0
        · rw [he] at CF
          have HO2 := Lib.hid (HOK.out he)
          have HE := Lib.hid he
          clear he
          go_wp2_with fail
          refine CF.out.mono ?_
          rintro e' w5 ⟨rfl, hb5⟩
          have HR5 := Lib.hid (HRI.out.grow hb5)
          have CD := Lib.hid (rDrawn_any (c1 := c1) (c2 := c2) w5 (HGI.out.below hb5) HO2.out)
          have x0' := cell_keep x0 hb5
          have x1' := cell_keep x1 hb5
          have x2' := cell_keep x2 hb5
          have x3' := cell_keep x3 hb5
          unfold gv TxtPost at CD
          clear hb5 x0 x1 x2 x3 CF
          have HEQ := Lib.hid (eq_sv2 (drawT N E p m) s)
          rw [← HSB.out] at HEQ
          generalize hTB : (⟨(drawT N E p m).toArray⟩ : ByteArray) = tb at *
          clear hTB
          go_wp2_with fail
          refine CD.out.mono ?_
          rintro e' w6 ⟨rfl, hb6⟩
          have HR6 := Lib.hid (HR5.out.grow hb6)
          have y0 := cell_keep x0' hb6
          have y1 := cell_keep x1' hb6
          have y2 := cell_keep x2' hb6
          have y3 := cell_keep x3' hb6
          have r0 := HR6.out.res.cell (j := 0) rfl
          have r1 := HR6.out.res.cell (j := 1) rfl
          have r2 := HR6.out.res.cell (j := 2) rfl
          have r3 := HR6.out.res.cell (j := 3) rfl
          have rf : ∀ k, w6.frozen? ⟨b, k, none⟩ = false := HR6.out.res.free
          have HZB := Lib.hid (zero_again HR6.out)
          clear hb6 x0' x1' x2' x3' CD
          by_cases hds : drawT N E p m = s
          · have h1 : (tb.toList == sb.toList) = true := by rw [HEQ.out]; simp [hds]
            have HYES : Hid (refRead s = some (N, E, p, m)) := Lib.hid (by rw [HRR.out, if_pos ⟨HE.out, hds⟩])
            clear hds
            go_wp2_with fail
            have hp := Blk.put4 HR6.out.res (.slice A1 N.length c1) (.slice A2 E.length c2) (.int .u64 (p : Int)) (.int .u64 (m : Int))
            have q1 := hp.cell (j := 0) rfl
            have q2 := hp.cell (j := 1) rfl
            have q3 := hp.cell (j := 2) rfl
            have q4 := hp.cell (j := 3) rfl
            have hbl := HR6.out.ls.blo
            refine bodyPost_ret (v := .tuple #[.agg #[.slice A1 N.length c1, .slice A2 E.length c2, .int .u64 (p : Int), .int .u64 (m : Int)], .bool true]) (by simp [results, Tryz.results25, go_sem, q1, q2, q3, q4]) rfl ?_
            exact ⟨A1, c1, A2, c2, N, E, p, m, true, rfl, rd_of_ownK (own_setB (own_setB (own_setB (own_setB HR6.out.ls.names (by omega) _) (by omega) _) (by omega) _) (by omega) _), rd_of_ownK (own_setB (own_setB (own_setB (own_setB HR6.out.ls.edges (by omega) _) (by omega) _) (by omega) _) (by omega) _), below_put4 HR6.out.below (Nat.le_of_eq HR6.out.hb) _ _ _ _, HYES.out⟩
          · have h1 : (tb.toList == sb.toList) = false := by rw [HEQ.out]; simp [hds]
            have HNO : Hid (refRead s = none) := Lib.hid (by rw [HRR.out, if_neg (fun hc => hds hc.2)])
            clear hds
            go_wp2_with fail
            exact rr_false HZB.out.1 HZB.out.2 HNO.out (by rfl) (by rfl)
        · have HNO : Hid (refRead s = none) := Lib.hid (by rw [HRR.out, if_neg (fun hc => he hc.1)])
          generalize grErr N E p m = er at *
          have h1 : (er != 0) = true := by simpa using he
          have h2 : (er == 0) = false := by simpa using he
          clear he
          go_wp2_with fail
          refine CF.out.mono ?_
          rintro e' w5 ⟨rfl, hb5⟩
          have HR5 := Lib.hid (HRI.out.grow hb5)
          have r0 := HR5.out.res.cell (j := 0) rfl
          have r1 := HR5.out.res.cell (j := 1) rfl
          have r2 := HR5.out.res.cell (j := 2) rfl
          have r3 := HR5.out.res.cell (j := 3) rfl
          have rf : ∀ k, w5.frozen? ⟨b, k, none⟩ = false := HR5.out.res.free
          have HZB := Lib.hid (zero_again HR5.out)
          clear hb5
          go_wp2_with fail
          exact rr_false HZB.out.1 HZB.out.2 HNO.out (by rfl) (by rfl)
end Go.Proofs.YtoandhhkmkgmaaaGreatDoor
