/- Contracts: build.Log. Lists of at most 2^20 elements. -/
import Derived.Test.YtiechbaknolimaaDoorLog1
import Derived.Test.YtiechbaknolimaaDoorSt1
import Derived.Deep.AppendLies
import Derived.Deep.RegionLaw
import Derived.Deep.RegionHeld3
import Derived.Test.YtiechbaknolimaaDoorAppendReg
namespace Go.Proofs.YtiechbaknolimaaDoor
open Go.RowKit

theorem rd_of_ownK {w : World} {B : Nat} {e : TypeId} {size : Nat} {A : Option Addr} {n c : Nat} {xs : List Value} (h : w.ownsRow B e size (.slice A n c) n xs) : Rd w A xs := by
  intro hpos
  rcases h.2 with ⟨_, h0⟩ | ⟨g, cap, cur, hv, _⟩
  · have := h.1
    rw [h0, Nat.zero_mul] at this
    omega
  · injection hv with hA _ _
    subst hA
    have hc := h.cells (g := g) rfl
    have hat : ∀ (j : Nat) (u : Value), xs[j]? = some u → w.cell? ⟨g, 0 + j, none⟩ = some u := fun j u hu => by
      have := hc j u hu
      unfold Addr.add at this
      by_cases hj : j = 0
      · subst hj; simpa using this
      · simpa [hj] using this
    refine ⟨g, 0, rfl, lt_of_cell' (hat 0 _ (List.getElem?_eq_getElem hpos)), hat⟩
theorem own_belowK {w w' : World} {B : Nat} {e : TypeId} {size : Nat} {v : Value} {n : Nat} {xs : List Value} (h : w.ownsRow B e size v n xs) (hb : Below w.heap.size w w') : w'.ownsRow B e size v n xs :=
  h.kept (w' := w') (row := none) ⟨hb.os, hb.tape, hb.output, hb.size, fun k hk _ => hb.block k hk⟩ (by
    cases hv : v.ownBlock with
    | none => exact .inl rfl
    | some g => exact .inr (by simp))
/-- A made build that comes in. -/
structure MdIn (AR : Option Addr) (nr : Nat) (AT : Option Addr) (nt : Nat) (R : List Int) (T : List Int) (w : World) : Prop where
  row : Rd w AR (R.map (.int .i64))
  rlen : R.length = nr
  rb : nr ≤ 1048576
  at_ : Rd w AT (T.map (.int .i64))
  tlen : T.length = nt
  tb : nt ≤ 9223372036854775807
theorem MdIn.below {AR AT : Option Addr} {nr nt : Nat} {R T : List Int} {w w' : World} (h : MdIn AR nr AT nt R T w) (hb : Below w.heap.size w w') : MdIn AR nr AT nt R T w' := ⟨h.row.below hb, h.rlen, h.rb, h.at_.below hb, h.tlen, h.tb⟩
structure TkIn (AF : Option Addr) (nf : Nat) (F : List UInt64) (w : World) : Prop where
  tk : Rd w AF (F.map fv)
  flen : F.length = nf
  fb : nf ≤ 9223372036854775807
theorem TkIn.below {AF : Option Addr} {nf : Nat} {F : List UInt64} {w w' : World} (h : TkIn AF nf F w) (hb : Below w.heap.size w w') : TkIn AF nf F w' := ⟨h.tk.below hb, h.flen, h.fb⟩
def mv (AR : Option Addr) (nr cr : Nat) (AT : Option Addr) (nt ct : Nat) : Value := .agg #[.slice AR nr cr, .slice AT nt ct]
def LogPost (N : List (List UInt8)) (A : List Int) (F : List UInt64) (R : List Int) (e0 : Int) (w : World) (e : Ending) (w' : World) : Prop :=
  ∃ A' c', e = .returned (.tuple #[.slice A' (logV N A F R e0).length c', .int .i64 (logErr N A F R e0)]) ∧ Rd w' A' (stV (logV N A F R e0)) ∧ Below w.heap.size w w'
theorem logPost_no {N : List (List UInt8)} {A : List Int} {F : List UInt64} {R : List Int} {e0 x : Int} {w w' : World} {e : Ending} (hx : logErr N A F R e0 = x) (hn : x ≠ 0) (he : e = .returned (.tuple #[.slice none 0 0, .int .i64 x])) (hb : Below w.heap.size w w') : LogPost N A F R e0 w e w' := by
  have hv : logV N A F R e0 = [] := by unfold logV; rw [hx, if_neg hn]
  exact ⟨none, 0, by rw [he, hv, hx]; rfl, by rw [hv]; exact Rd.nil_ _ _, hb⟩
theorem box_mix (w : World) (x1 x2 x3 x4 y1 y2 : Value) (t u : TypeId) :
    GrBox w.heap.size x1 x2 x3 x4 ((w.alloc (.cells #[x1, x2, x3, x4] t)).alloc (.cells #[y1, y2] u)) ∧ SeBox (w.heap.size + 1) y1 y2 ((w.alloc (.cells #[x1, x2, x3, x4] t)).alloc (.cells #[y1, y2] u)) ∧ Below w.heap.size w ((w.alloc (.cells #[x1, x2, x3, x4] t)).alloc (.cells #[y1, y2] u)) := box_six w x1 x2 x3 x4 y1 y2 t u
theorem logErr_e0 {N : List (List UInt8)} {A : List Int} {F : List UInt64} {R : List Int} {e0 : Int} (h : e0 ≠ 0) : logErr N A F R e0 = e0 := by unfold logErr; rw [if_pos h]
theorem logErr_1 {N : List (List UInt8)} {A : List Int} {F : List UInt64} {R : List Int} (h : F.length ≠ N.length ∨ A.length ≠ N.length) : logErr N A F R 0 = 1 := by unfold logErr; rw [if_neg (by decide), if_pos h]
theorem logErr_4 {N : List (List UInt8)} {A : List Int} {F : List UInt64} {R : List Int} (h1 : F.length = N.length) (h2 : A.length = N.length) {q : Nat} {i : Int} (hi : R[q]? = some i) (hb : inR N.length i = false) : logErr N A F R 0 = 4 := by
  unfold logErr
  rw [if_neg (by decide), if_neg (by omega), if_pos]
  exact List.all_eq_false.2 ⟨i, List.mem_of_getElem? hi, by simp [hb]⟩
theorem logErr_end {N : List (List UInt8)} {A : List Int} {F : List UInt64} {R : List Int} (h1 : F.length = N.length) (h2 : A.length = N.length) (hall : ∀ (j : Nat) (i : Int), R[j]? = some i → inR N.length i = true) : logErr N A F R 0 = stErr (logL N A F R) := by
  unfold logErr
  have : R.all (inR N.length) = true := List.all_eq_true.2 fun i hi => by
    obtain ⟨j, hj⟩ := List.mem_iff_getElem?.1 hi
    exact hall j i hj
  rw [if_neg (by decide), if_neg (by omega), this]
  rfl
theorem logL_snoc {N : List (List UInt8)} {A : List Int} {F : List UInt64} {R : List Int} {q : Nat} {i : Int} (h : R[q]? = some i) : logL N A F (R.take (q + 1)) = logL N A F (R.take q) ++ [stampAt N A F i] := by
  obtain ⟨hq, rfl⟩ := List.getElem?_eq_some_iff.1 h
  unfold logL
  rw [List.take_succ_eq_append_getElem hq, List.map_append]
  rfl
theorem logL_names {N : List (List UInt8)} {A : List Int} {F : List UInt64} {R : List Int} (hs : StrsOk N) : NamesOk (logL N A F R) := by
  intro j x hx
  unfold logL at hx
  rw [List.getElem?_map] at hx
  obtain ⟨i, _, rfl⟩ := Option.map_eq_some_iff.1 hx
  unfold stampAt
  simp only
  rw [List.getD_eq_getElem?_getD]
  cases hN : N[i.toNat]? with
  | none => simp
  | some s => exact hs s (List.mem_of_getElem? hN)
theorem Rd.fval {w : World} {A : Option Addr} {l : List UInt64} (h : Rd w A (l.map fv)) {k : Nat} {x : UInt64} (hk : l[k]? = some x) : ∃ b off, A = some ⟨b, off, none⟩ ∧ w.cell? ⟨b, off + k, none⟩ = some (fv x) := by
  obtain ⟨hlt, he⟩ := List.getElem?_eq_some_iff.1 hk
  obtain ⟨b, off, rfl, hc⟩ := h.at_ (k := k) (by simpa using hlt)
  exact ⟨b, off, rfl, by rw [hc, List.getElem_map, he]⟩
theorem elStamp : Tryd.prog.underlying 62 = some (.slice 100) ∧ ∃ i, Tryd.prog.info? 100 = some i ∧ i.zero = some (.agg #[.string ⟨#[]⟩, .int .i64 0, .float .f64 0]) ∧ i.size = 3 ∧ i.bytes = 32 ∧ (Value.agg #[.string ⟨#[]⟩, .int .i64 0, .float .f64 0]).cells.size = 3 := by
  refine ⟨Tryd.underlying62, ?_⟩
  have h : (Tryd.prog.info? 100).map (fun i => (i.zero, i.size, i.bytes)) = some (some (.agg #[.string ⟨#[]⟩, .int .i64 0, .float .f64 0]), 3, 32) := by kernel_rfl
  cases hi : Tryd.prog.info? 100 with
  | none => rw [hi] at h; cases h
  | some i =>
    rw [hi] at h
    simp at h
    exact ⟨i, rfl, h.1, h.2.1, h.2.2, by rfl⟩
theorem lit_three {w : World} {v1 v2 v3 : Value} {e : TypeId} : ∀ (j : Nat) (u : Value), ([v1, v2, v3] : List Value)[j]? = some u → (w.drew.alloc (.cells #[v1, v2, v3] e)).cell? ((⟨w.heap.size, 0, none⟩ : Addr).add j) = some u := by
  intro j u hj
  rw [addr_plus]
  rw [show (⟨w.heap.size, 0 + j, none⟩ : Addr) = ⟨w.drew.heap.size, 0 + j, none⟩ from rfl, World.cell?_alloc_at _ _ _ _ rfl, Nat.zero_add]
  simpa using hj
section
variable {A1 A2 AR AT AF : Option Addr} {n k nr nt nf c1 c2 cr ct cf : Nat} {N : List (List UInt8)} {E : List EdgeT} {p m : Nat} {R T : List Int} {F : List UInt64} (w : World) (hG : GrIn A1 n A2 k N E p m w) (hM : MdIn AR nr AT nt R T w) (hK : TkIn AF nf F w)
include hG hM hK
set_option maxRecDepth 100000 in
set_option maxHeartbeats 4000000 in
theorem bLog_any : Calls Tryd.prog 28 #[gv A1 n c1 A2 k c2 p m, mv AR nr cr AT nt ct, .slice AF nf cf] w (LogPost N T F R (grErr N E p m) w) := by
  have C1 := Lib.hid (fun W (hW : Below w.heap.size w W) => gCheck_any (c1 := c1) (c2 := c2) W (hG.below hW))
  have HNL := Lib.hid hG.nlen
  have HG := Lib.hid hG
  have HM := Lib.hid hM
  have HK := Lib.hid hK
  have hnb := hG.nb
  have hrb := hM.rb
  unfold gv mv at *
  obtain ⟨x0, y0, z0⟩ := box_mix w (.slice A1 n c1) (.slice A2 k c2) (.int .u64 (p : Int)) (.int .u64 (m : Int)) (.slice AR nr cr) (.slice AT nt ct) 26 58
  have X2 := Lib.hid x0
  have Y2 := Lib.hid y0
  have B2 := Lib.hid z0
  clear hG hM hK x0 y0 z0
  go_enter Tryd.func28, Tryd.ntmps28
  go_upto_region 1 with fail
  generalize (w.alloc (.cells #[.slice A1 n c1, .slice A2 k c2, .int .u64 (p : Int), .int .u64 (m : Int)] 26)).alloc (.cells #[.slice AR nr cr, .slice AT nt ct] 58) = w2 at *
  generalize w.heap.size + 1 = BS at *
  obtain ⟨x1, x2, x3, x4⟩ := X2.out
  obtain ⟨y1, y2⟩ := Y2.out
  go_wp2_with fail
  refine (C1.out _ B2.out).mono ?_
  rintro e w3 ⟨rfl, hb3⟩
  have B3 := Lib.hid (below_then B2.out hb3)
  have X3 := Lib.hid (X2.out.below hb3)
  have Y3 := Lib.hid (Y2.out.below hb3)
  clear hb3 x1 x2 x3 x4 y1 y2 X2 Y2 C1
  obtain ⟨x1, x2, x3, x4⟩ := X3.out
  obtain ⟨y1, y2⟩ := Y3.out
  generalize hge : grErr N E p m = e0 at *
  by_cases h0 : e0 = 0
  case neg =>
    have HE := Lib.hid (logErr_e0 (N := N) (A := T) (F := F) (R := R) h0)
    have HN0 := Lib.hid h0
    clear hge
    go_wp2_with fail
    go_ret2
    exact logPost_no HE.out HN0.out rfl B3.out
  subst h0
  have HGE := Lib.hid hge
  clear hge
  by_cases h1 : nf = n
  case neg =>
    have HE := Lib.hid (logErr_1 (N := N) (A := T) (F := F) (R := R) (.inl (by rw [HK.out.flen, HNL.out]; exact h1)))
    have d1 : ((nf : Int) != (n : Int)) = true := by simp; omega
    go_wp2_with fail
    go_ret2
    exact logPost_no HE.out (by decide) rfl B3.out
  by_cases h2 : nt = n
  case neg =>
    have HE := Lib.hid (logErr_1 (N := N) (A := T) (F := F) (R := R) (.inr (by rw [HM.out.tlen, HNL.out]; exact h2)))
    have d1 : ((nf : Int) != (n : Int)) = false := by simp; omega
    have d2 : ((nt : Int) != (n : Int)) = true := by simp; omega
    go_wp2_with fail
    go_ret2
    exact logPost_no HE.out (by decide) rfl B3.out
  subst h1
  subst h2
  go_wp2_with fail
  go_loopw [10, 12, 38] (fun v _ i wr => ∃ q : Nat, q ≤ nr ∧ i = .int .i64 (q : Int) ∧ ∃ A' c', v = .slice A' q c' ∧ Hid (wr.ownsRow w3.heap.size 100 3 (.slice A' q c') q (stV (logL N T F (R.take q)))) ∧ Hid (∀ (j : Nat) (i : Int), j < q → R[j]? = some i → inR nt i = true) ∧ Hid (Below w3.heap.size w3 wr)) (fun _ _ i _ => nr - (intOf i).toNat)
  case atStart => exact ⟨0, by omega, rfl, none, 0, rfl, Lib.hid (World.ownsRow_nil _ _ _ _), Lib.hid (fun j e hj => absurd hj (by omega)), Lib.hid (Below.refl _ _)⟩
  case round =>
    clear x1 x2 x3 x4 y1 y2
    obtain ⟨q, hq, rfl, A', c', rfl, hown, hall, hbw⟩ := hrel
    have B4 := Lib.hid (below_then B3.out hbw.out)
    have X4 := Lib.hid (X3.out.below hbw.out)
    have Y4 := Lib.hid (Y3.out.below hbw.out)
    obtain ⟨x1, x2, x3, x4⟩ := X4.out
    obtain ⟨y1, y2⟩ := Y4.out
    by_cases hlt : q < nr
    · obtain ⟨i, hi⟩ : ∃ i, R[q]? = some i := ⟨_, List.getElem?_eq_getElem (by rw [HM.out.rlen]; exact hlt)⟩
      obtain ⟨bR, oR, rfl, u0⟩ := (HM.out.row.below B4.out).int (k := q) (by rw [HM.out.rlen]; exact hlt)
      rw [hi] at u0
      simp only [Option.getD_some] at u0
      have HI := Lib.hid hi
      have hq2 : (q : Int) < (nr : Int) := by omega
      clear hi
      by_cases hin : inR nt i = true
      · have hin0 : 0 ≤ i ∧ i < (nt : Int) := by unfold inR at hin; simpa using hin
        obtain ⟨z, rfl⟩ : ∃ z : Nat, i = (z : Int) := ⟨i.toNat, by omega⟩
        obtain ⟨f1, f2⟩ := hin0
        have hzn : z < nt := by omega
        obtain ⟨s, hs⟩ : ∃ s, N[z]? = some s := ⟨_, List.getElem?_eq_getElem (by rw [HNL.out]; exact hzn)⟩
        obtain ⟨t, ht⟩ : ∃ t, T[z]? = some t := ⟨_, List.getElem?_eq_getElem (by rw [HM.out.tlen]; exact hzn)⟩
        obtain ⟨f, hf⟩ : ∃ f, F[z]? = some f := ⟨_, List.getElem?_eq_getElem (by rw [HK.out.flen]; exact hzn)⟩
        obtain ⟨bN, oN, rfl, v3⟩ := (HG.out.names.below B3.out).scell hs
        obtain ⟨bT, oT, rfl, v4⟩ := (HM.out.at_.below B3.out).int (k := z) (by rw [HM.out.tlen]; exact hzn)
        obtain ⟨bF, oF, rfl, v5⟩ := (HK.out.tk.below B3.out).fval hf
        rw [ht] at v4
        simp only [Option.getD_some] at v4
        unfold fv at v5
        obtain ⟨v1, _, _, _⟩ := X3.out
        obtain ⟨_, v2⟩ := Y3.out
        have u1 := cell_keep v3 hbw.out
        have u2 := cell_keep v4 hbw.out
        have u3 := cell_keep v5 hbw.out
        have HST : Hid (stampAt N T F (z : Int) = (s, t, f)) := Lib.hid (by unfold stampAt; simp [List.getD_eq_getElem?_getD, hs, ht, hf])
        clear hs ht hf hin
        have hcs : stV (logL N T F (R.take (q + 1))) = stV (logL N T F (R.take q)) ++ [sv s, .int .i64 t, fv f] := by rw [logL_snoc HI.out, HST.out, stV_snoc]
        have HCS := Lib.hid hcs
        clear hcs
        obtain ⟨ht, i0, hi, hz, hs1, hby, hzs⟩ := elStamp
        go_wp2_with fail
        have hb0 : Below wr.heap.size wr (wr.drew.alloc (.cells #[.string ⟨s.toArray⟩, .int .i64 t, .float .f64 f.toNat] 100)) := drew_alloc_below wr _
        have H1 : Hid ((wr.drew.alloc (.cells #[.string ⟨s.toArray⟩, .int .i64 t, .float .f64 f.toNat] 100)).ownsRow w3.heap.size 100 3 (.slice A' q c') q (stV (logL N T F (R.take q)))) := Lib.hid (own_belowK hown.out hb0)
        have H2 := Lib.hid (lit_three (w := wr) (v1 := .string ⟨s.toArray⟩) (v2 := .int .i64 t) (v3 := .float .f64 f.toNat) (e := 100))
        have H3 : Hid (∀ u ∈ ([.string ⟨s.toArray⟩, .int .i64 t, .float .f64 f.toNat] : List Value), u.oneCell' = true) := Lib.hid (by intro u hu; simp at hu; rcases hu with rfl | rfl | rfl <;> rfl)
        have H4 : Hid (w3.heap.size ≤ (wr.drew.alloc (.cells #[.string ⟨s.toArray⟩, .int .i64 t, .float .f64 f.toNat] 100)).heap.size) := Lib.hid (Nat.le_trans hbw.out.size hb0.size)
        have HB0 := Lib.hid hb0
        clear hb0
        go_region_held3 (fun w' => w'.cell? ⟨w.heap.size, 0, none⟩ = some (.slice (some ⟨bN, oN, none⟩) nt c1) ∧ w'.cell? ⟨BS, 1, none⟩ = some (.slice (some ⟨bT, oT, none⟩) nt ct) ∧ w'.cell? ⟨bN, oN + z, none⟩ = some (.string ⟨s.toArray⟩) ∧ w'.cell? ⟨bT, oT + z, none⟩ = some (.int .i64 t) ∧ w'.cell? ⟨bF, oF + z, none⟩ = some (.float .f64 f.toNat))
          ((refine ⟨?_, ?_, ?_, ?_, ?_⟩ <;> first | assumption | exact cell_alloc (by assumption) _))
          ((refine step_append_lies _ rfl (.tmp 49) (.tmp 65) 62 rfl w3.heap.size 100 i0 _ 3 32 ht hi hz hs1 hby hzs (by decide) (.slice A' q c') q (stV (logL N T F (R.take q))) (by simp [Act.eval]) H1.out ⟨wr.heap.size, 0, none⟩ 1 1 [.string ⟨s.toArray⟩, .int .i64 t, .float .f64 f.toNat] (by simp [Act.eval]) rfl H2.out H3.out (by decide) (by unfold maxLen; omega) (by omega) H4.out _ rfl ?_; intro g7 c7 w7 hown7 hg7 _ _; have HB7 : Below w3.heap.size w3 w7 := (hbw.out.trans (HB0.out.mono hbw.out.size)).grown hg7 H4.out (fun k hk => (H1.out.lt k hk).1); have z1 := cell_keep v1 HB7; have z2 := cell_keep v2 HB7; have z3 := cell_keep v3 HB7; have z4 := cell_keep v4 HB7; have z5 := cell_keep v5 HB7))
        have HB7 := Lib.hid HB7
        clear z1 z2 z3 z4 z5
        have HO7 : Hid (w7.ownsRow w3.heap.size 100 3 (.slice (some ⟨g7, 0, none⟩) (q + 1) c7) (q + 1) (stV (logL N T F (R.take (q + 1))))) := Lib.hid (by rw [HCS.out]; exact hown7)
        have HA : Hid (∀ (j : Nat) (i : Int), j < q + 1 → R[j]? = some i → inR nt i = true) := Lib.hid (fun j i hj hi => by
          rcases Nat.lt_or_ge j q with h | h
          · exact hall.out j i h hi
          · obtain rfl : j = q := by omega
            rw [HI.out] at hi
            injection hi with hi
            rw [← hi]; unfold inR; simp; omega)
        clear hown7 hg7 hown hall
        go_simp
        go_wp2_with fail
        go_roundw
        case rel => exact ⟨q + 1, by omega, by go_num, some ⟨g7, 0, none⟩, c7, rfl, HO7, HA, HB7⟩
        case measure => simp [intOf]; omega
      · have HE : Hid (logErr N T F R 0 = 4) := Lib.hid (logErr_4 (by rw [HK.out.flen, HNL.out]) (by rw [HM.out.tlen, HNL.out]) HI.out (by rw [HNL.out]; simpa using hin))
        have hout : i < 0 ∨ (0 ≤ i ∧ (nt : Int) ≤ i) := by unfold inR at hin; simp at hin; omega
        clear hin hown hall
        rcases hout with hout | ⟨hout1, hout2⟩
        · go_wp2_with fail
          go_ret2
          exact logPost_no HE.out (by decide) rfl B4.out
        · go_wp2_with fail
          go_ret2
          exact logPost_no HE.out (by decide) rfl B4.out
    · obtain rfl : q = nr := by omega
      have hqn : ¬ (q : Int) < (q : Int) := by omega
      have HE : Hid (logErr N T F R 0 = stErr (logL N T F R)) := Lib.hid (logErr_end (by rw [HK.out.flen, HNL.out]) (by rw [HM.out.tlen, HNL.out]) (fun j i hi => by rw [HNL.out]; exact hall.out j i (by have := (List.getElem?_eq_some_iff.1 hi).1; have := HM.out.rlen; omega) hi))
      have HRD : Hid (Rd wr A' (stV (logL N T F R))) := Lib.hid (by
        have := rd_of_ownK hown.out
        rwa [List.take_of_length_le (by rw [HM.out.rlen]; exact Nat.le_refl _)] at this)
      have HLL : Hid ((logL N T F R).length = q) := Lib.hid (by unfold logL; rw [List.length_map]; exact HM.out.rlen)
      have HC := Lib.hid (lCheck_any (c := c') (logL N T F R) wr HRD.out HLL.out (by omega) (logL_names HG.out.strs))
      clear hown hall
      go_wp2_with fail
      refine HC.out.mono ?_
      rintro e w5 ⟨rfl, hb5⟩
      have B5 := Lib.hid (below_then B4.out hb5)
      have HR5 := Lib.hid (HRD.out.below hb5)
      clear hb5 x1 x2 x3 x4 y1 y2
      by_cases he : stErr (logL N T F R) = 0
      · have HV : Hid (logV N T F R 0 = logL N T F R) := Lib.hid (by unfold logV; rw [HE.out, if_pos he])
        rw [he] at HE ⊢
        clear he
        go_wp2_with fail
        go_ret2
        refine ⟨A', c', ?_, ?_, B5.out⟩
        · rw [HV.out, HLL.out, HE.out] <;> rfl
        · rw [HV.out]; exact HR5.out
      · have HEN := Lib.hid he
        generalize stErr (logL N T F R) = x at *
        go_wp2_with fail
        go_ret2
        exact logPost_no HE.out HEN.out rfl B5.out
end
end Go.Proofs.YtiechbaknolimaaDoor
