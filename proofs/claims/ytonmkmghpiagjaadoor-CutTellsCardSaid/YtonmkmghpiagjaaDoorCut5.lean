/- Contract: cut.Ways. The table of math/bits lies. -/
import Derived.Test.YtonmkmghpiagjaaDoorCut4
import Derived.Test.YtonmkmghpiagjaaDoorOwn3
namespace Go.Proofs.YtonmkmghpiagjaaDoor
open Go.RowKit

theorem elRowC : ElT Tryd.prog 35 24 (.slice none 0 0) 24 := ElT.mk' Tryd.underlying35 (by kernel_rfl) rfl
/-- How many steps a way has. -/
noncomputable def mOf (l : List Nat) (a b : Nat) (st : Fl) (k : Nat) : Nat := by
  classical
  exact if h : ∃ m, Goes l a b st k m then h.choose else 0
theorem mOf_goes {l : List Nat} {a b : Nat} {st : Fl} {k : Nat} (hg : Good l) (hf : FInv l a b st) (hk : k ∈ st.fs) : Goes l a b st k (mOf l a b st k) := by
  have h := goes_of hg hf hk
  unfold mOf
  rw [dif_pos h]
  exact h.choose_spec
/-- The ways, as rows. -/
noncomputable def waysL (l : List Nat) (a b : Nat) (st : Fl) (t : Nat) : List (List Nat) := (st.fs.take t).map fun k => wayC a st k (mOf l a b st k)
theorem waysL_succ (l : List Nat) (a b : Nat) (st : Fl) {t k : Nat} (h : st.fs[t]? = some k) : waysL l a b st (t + 1) = waysL l a b st t ++ [wayC a st k (mOf l a b st k)] := by
  unfold waysL
  rw [List.take_add_one, h, List.map_append]
  rfl
theorem own_two (w : World) (x y : Nat) {B : Nat} (hB : B ≤ w.heap.size) : (w.alloc (.cells #[.int .i64 (x : Int), .int .i64 (y : Int)] 3)).ownsRow B 3 1 (.slice (some ⟨w.heap.size, 0, none⟩) 2 2) 2 ([x, y].map nv) :=
  ⟨by simp, .inr ⟨w.heap.size, 2, #[.int .i64 (x : Int), .int .i64 (y : Int)], rfl, hB, heap_alloc_new w _, Nat.le_refl _, by unfold maxLen; omega, by simp, by simp [nv]⟩⟩
theorem ways_bad {A : Option Addr} {n c : Nat} (l : List Nat) (a b : Int) (w : World) (h1 : Rd w A (l.map uv)) (hl : l.length = n) (hnb : n ≤ 9223372036854775807) (hb : Rows64 l) (he : cutErr l a b ≠ 0) :
    Calls Tryd.prog 15 #[.slice A n c, .int .i64 a, .int .i64 b] w fun e w' => e = .returned (.tuple #[.slice none 0 0, .int .i64 (cutErr l a b)]) ∧ w = w' := by
  have H := Lib.hid (cCheck_any (c := c) l a b w h1 hl hnb hb)
  have he' : (cutErr l a b != 0) = true := by simp [he]
  clear h1 hl hb he
  go_enter Tryd.func15, Tryd.ntmps15
  go_wp2_with fail
  refine H.out.mono ?_
  rintro e w1 ⟨rfl, rfl⟩
  go_wp2_with fail
  go_ret2
  exact ⟨rfl, rfl⟩
def WaysPost (l : List Nat) (a b : Nat) (w : World) (e : Ending) (w' : World) : Prop :=
  ∃ (st : Fl) (R : Nat × Bool → Prop) (A : Option Addr) (c : Nat) (vs : List Value), FInv l a b st ∧ Shut l a b st R ∧ e = .returned (.tuple #[.slice A st.fs.length c, .int .i64 0]) ∧
    w'.ownsRow w.heap.size 24 1 (.slice A st.fs.length c) st.fs.length vs ∧ ChRows 3 w' w.heap.size (Value.slice A st.fs.length c).ownBlock vs (waysL l a b st st.fs.length) ∧ Below w.heap.size w w'
set_option maxHeartbeats 1000000 in
theorem ways_good {A : Option Addr} {n c a b : Nat} (l : List Nat) (w : World) (h1 : Rd w A (l.map uv)) (hl : l.length = n) (hnb : n ≤ 9223372036854775807) (hb : Rows64 l) (hT : Tab w) (hg : Good l)
    (he : cutErr l (a : Int) (b : Int) = 0) (ha : a < n) (hbn : b < n) (hab : a ≠ b) (hed : ¬ Ed l a b) :
    Calls Tryd.prog 15 #[.slice A n c, .int .i64 (a : Int), .int .i64 (b : Int)] w (WaysPost l a b w) := by
  have hn : n ≤ 64 := by have := hg.1; omega
  have H := Lib.hid (cCheck_any (c := c) l (a : Int) (b : Int) w h1 hl hnb hb)
  have HN := Lib.hid (newFlow_any (c := c) l w h1 hl hg hT ha hbn hab hed)
  have HL := Lib.hid hl
  have HG := Lib.hid hg
  have HE := Lib.hid he
  clear h1 hl hb hT hg he hab hed
  go_enter Tryd.func15, Tryd.ntmps15
  go_wp2_with fail
  refine H.out.mono ?_
  rintro e w1 ⟨rfl, rfl⟩
  rw [HE.out]
  go_wp2_with fail
  refine HN.out.mono ?_
  rintro e w2 ⟨BF, bN, bA, F, cF, st, R, rfl, hfi, hsh, hfl, hb2⟩
  have HFI := Lib.hid hfi
  have HSH := Lib.hid hsh
  have HFL := Lib.hid hfl
  have HB2 := Lib.hid hb2
  have hsz2 : w.heap.size ≤ w2.heap.size := hb2.size
  have hfn : st.fs.length ≤ 64 := by have := fs_len HG.out hfi; have := HL.out; omega
  have x5 := hfl.box.cell (j := 5) rfl
  clear hfi hsh hfl hb2 H HN
  go_wp2_with fail
  go_loopw [10, 12, 13, 30] (fun v _ _ x wr => ∃ (t : Nat) (A4 : Option Addr) (c4 : Nat) (vs : List Value), t ≤ st.fs.length ∧ x = .int .i64 (t : Int) ∧ v = .slice A4 t c4 ∧ Hid (wr.ownsRow w2.heap.size 24 1 (.slice A4 t c4) t vs) ∧ Hid (ChRows 3 wr w2.heap.size (Value.slice A4 t c4).ownBlock vs (waysL l a b st t)) ∧ Hid (Below w2.heap.size w2 wr)) (fun _ _ _ x _ => st.fs.length - (intOf x).toNat)
  case atStart => exact ⟨0, none, 0, [], by omega, rfl, rfl, Lib.hid (World.ownsRow_nil _ _ _ _), Lib.hid (chRows_nil _ _ _ _), Lib.hid (Below.refl _ _)⟩
  case round =>
    obtain ⟨t, A4, c4, vs, ht, rfl, rfl, hown, hrows, hbw⟩ := hrel
    clear x5
    by_cases htn : t < st.fs.length
    · obtain ⟨k, hk⟩ : ∃ k, st.fs[t]? = some k := ⟨st.fs[t], List.getElem?_eq_getElem htn⟩
      have HGO := Lib.hid (mOf_goes HG.out HFI.out (List.mem_of_getElem? hk))
      have HWS := Lib.hid (waysL_succ l a b st hk)
      have hfw := HFL.out.below hbw.out
      obtain ⟨gF, rfl⟩ := own_someD hfw.fs (by omega)
      have y1 : wr.cell? ⟨gF, t, none⟩ = some (.int .i64 (k : Int)) := by
        rw [hfw.fs.cellAt t (by omega)]
        simp [hk, nv]
      have HFW := Lib.hid hfw
      have hkb : k ≠ b := (fs_ed HFI.out (List.mem_of_getElem? hk)).2.2
      have hm64 : mOf l a b st k ≤ 64 := by have := HGO.out.le; have := HL.out; omega
      have hszq : w2.heap.size ≤ wr.heap.size := hbw.out.size
      clear hk hfw
      have HT2 : Hid ((wr.alloc (.cells #[.int .i64 (a : Int), .int .i64 (k : Int)] 3)).ownsRow wr.heap.size 3 1 (.slice (some ⟨wr.heap.size, 0, none⟩) 2 2) 2 ((wayC a st k 0).map nv)) := Lib.hid (own_two wr a k (Nat.le_refl _))
      have HBQ0 : Hid (Below wr.heap.size wr (wr.alloc (.cells #[.int .i64 (a : Int), .int .i64 (k : Int)] 3))) := Lib.hid (below_new (Below.refl _ _) _)
      generalize mOf l a b st k = m at HGO HWS hm64
      go_wp2_with fail
      clear y1
      go_loopw [12, 13] (fun x v wq => ∃ (i : Nat) (A3 : Option Addr) (c3 : Nat), i ≤ m ∧ x = .int .i64 (itF st k i : Nat) ∧ v = .slice A3 (i + 2) c3 ∧ Hid (wq.ownsRow wr.heap.size 3 1 (.slice A3 (i + 2) c3) (i + 2) ((wayC a st k i).map nv)) ∧ Hid (Below wr.heap.size wr wq)) (fun _ v _ => m + 2 - sliceLen v)
      case atStart => exact ⟨0, _, 2, Nat.zero_le _, rfl, rfl, HT2, HBQ0⟩
      case round =>
        clear HT2 HBQ0
        obtain ⟨i, A3, c3, hi, rfl, rfl, hown3, hbq⟩ := hrel
        by_cases hib : i < m
        · have hne := (HGO.out.inner HFI.out hib).2
          have g1 : (((itF st k i : Nat) : Int) != ((b : Nat) : Int)) = true := by simp only [bne_iff_ne, ne_eq]; omega
          have hxl : itF st k i < n := by rw [← HL.out]; exact HGO.out.lt HG.out HFI.out hi
          have hfq := HFW.out.below hbq.out
          have z1 := hfq.box.cell (j := 3) rfl
          have z2 := hfq.nxCell hxl
          rw [HGO.out.nx HFI.out hib] at z2
          have HWC := Lib.hid (wayC_snoc a st k i)
          have hszq2 := hbq.out.size
          clear hne hfq
          generalize itF st k i = x at g1 hxl z2 ⊢
          generalize hy : itF st k (i + 1) = y at z2 HWC
          have HY := Lib.hid hy
          clear hy
          go_wp2_with (at_builtin; refine wpList_push elInt wr _ _ _ A3 (i + 2) c3 _ (nv y) hown3.out rfl hszq2 (by omega) (by omega) rfl rfl rfl rfl ?_; intro A' c' w5 hown5 hb5)
          go_roundw
          case rel => exact ⟨i + 1, A', c', hib, by rw [HY.out], rfl, Lib.hid (by rw [HWC.out, List.map_append]; exact hown5), Lib.hid (hbq.out.trans hb5)⟩
          case measure => simp [sliceLen]; omega
        · obtain rfl : i = m := by omega
          have g1 : (((itF st k i : Nat) : Int) != ((b : Nat) : Int)) = false := by rw [HGO.out.en]; simp
          have HO4 := Lib.hid (own_below hown.out hbq.out)
          have HR4 := Lib.hid (chRows_below hrows.out hbq.out)
          have hne : (Value.slice A3 (i + 2) c3).ownBlock = none ∨ (Value.slice A3 (i + 2) c3).ownBlock ≠ (Value.slice A4 t c4).ownBlock := by
            cases h : (Value.slice A3 (i + 2) c3).ownBlock with
            | none => exact .inl rfl
            | some g =>
              refine .inr fun he => ?_
              have h2 := (hown3.out.lt g h).1
              have h3 := (hown.out.lt g he.symm).2
              omega
          have HNE := Lib.hid hne
          have HB4 := Lib.hid (hbw.out.trans (hbq.out.mono hszq))
          have hszq2 : w2.heap.size ≤ wr.heap.size := HB4.out.size
          have HO3 := Lib.hid (own_base hown3.out hszq)
          clear hne hown3 hbq hown hbw hrows
          go_wp2_with (at_builtin; refine wpList_push_at elRowC wr _ _ w2.heap.size A4 t c4 vs (.slice A3 (i + 2) c3) HO4.out rfl hszq2 (by omega) (by omega) rfl rfl rfl rfl ?_; intro A' c' w5 hown5 hb5 hg5 hat5)
          go_roundw
          case rel =>
            refine ⟨t + 1, A', c', vs ++ [.slice A3 (i + 2) c3], by omega, by go_num, rfl, Lib.hid hown5, Lib.hid ?_, Lib.hid (HB4.out.trans hb5)⟩
            rw [HWS.out]
            have hwl := wayC_len a st k i
            refine chRows_snoc _ HR4.out (by rw [hwl]) (A := A3) (c := c3) ?_ ?_ hg5 hat5
            · rw [hwl]; exact HO3.out
            · rw [hwl]; exact HNE.out
          case measure => simp [intOf]; omega
    · obtain rfl : t = st.fs.length := by omega
      have HOW := Lib.hid (own_base hown.out hsz2)
      have HRW := Lib.hid (chRows_base hrows.out hsz2)
      have HBE := Lib.hid (below_then HB2.out hbw.out)
      clear hown hrows hbw
      go_wp2_with fail
      go_ret2
      exact ⟨st, R, A4, c4, vs, HFI.out, HSH.out, rfl, HOW.out, HRW.out, HBE.out⟩
end Go.Proofs.YtonmkmghpiagjaaDoor
