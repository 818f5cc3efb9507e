/- Contract: dom.row. The rows are good; the table of math/bits lies. -/
import Derived.Test.YtonmkmghpiagjaaDoorDomPlain5
import Derived.Test.YtonmkmghpiagjaaDoorDom4
import Derived.Test.YtonmkmghpiagjaaDoorDom5
import Derived.Test.YtonmkmghpiagjaaDoorSortOwn
import Derived.Test.YtonmkmghpiagjaaDoorShelf
namespace Go.Proofs.YtonmkmghpiagjaaDoor
open Go.RowKit Go.Sort Go.Lib

/-- A number that rules m. -/
def Rlr (l : List Nat) (root m : Nat) : Type := { x : Nat // x ∈ nums (ruledBy l root m) }
def rlrV {l : List Nat} {root m : Nat} (x : Rlr l root m) : Value := .int .i64 (x.1 : Int)
def rlrC {l : List Nat} {root m : Nat} (x y : Rlr l root m) : Int := (cntR l root x.1 : Int) - (cntR l root y.1 : Int)
theorem rlr_lt {l : List Nat} {root m : Nat} (x y : Rlr l root m) : ltOf rlrC x y = decide (cntR l root x.1 < cntR l root y.1) := by
  unfold ltOf rlrC
  rw [Bool.eq_iff_iff, decide_eq_true_eq, decide_eq_true_eq]
  omega
theorem rlr_swo {l : List Nat} {root m : Nat} : SWO (ltOf (rlrC (l := l) (root := root) (m := m))) where
  irrefl x := by rw [rlr_lt]; simp
  trans x y z h1 h2 := by rw [rlr_lt] at *; simp at *; omega
  ntrans x y z h1 h2 := by rw [rlr_lt] at *; simp at *; omega
theorem rlr_tot {l : List Nat} {root m : Nat} (hg : Good l) (hr : root < l.length) (x y : Rlr l root m) (h1 : ltOf rlrC x y = false) (h2 : ltOf rlrC y x = false) : x = y := by
  rw [rlr_lt] at h1 h2
  simp at h1 h2
  exact Subtype.ext (cnt_apart hg hr x.2 y.2 (by omega))
def rlrs (l : List Nat) (root m : Nat) : List (Rlr l root m) := (nums (ruledBy l root m)).attach
theorem rlrs_len (l : List Nat) (root m : Nat) : (rlrs l root m).length = (nums (ruledBy l root m)).length := List.length_attach
theorem rlrs_val (l : List Nat) (root m : Nat) : (rlrs l root m).map (fun x => x.1) = nums (ruledBy l root m) := List.attach_map_subtype_val _
theorem rlrV_map {l : List Nat} {root m : Nat} (xs : List (Rlr l root m)) : xs.map rlrV = (xs.map (fun x => x.1)).map nv := by rw [List.map_map]; rfl
theorem rlr_sorted {l : List Nat} {root m : Nat} (hg : Good l) (hr : root < l.length) : ((rlrs l root m).mergeSort fun x y => !(ltOf rlrC) y x).map (fun x => x.1) = domC l root m := by
  refine chain_one (chain_sorted hg hr ?_ ?_) (domC_chain hg hr)
  · have h := (List.mergeSort_perm (rlrs l root m) fun x y => !(ltOf rlrC) y x).map (fun x => x.1)
    rw [rlrs_val] at h
    exact h
  · rw [List.pairwise_map]
    have h := List.pairwise_mergeSort (le := fun x y : Rlr l root m => !(ltOf rlrC) y x) (fun a b c h1 h2 => by
      rw [rlr_lt] at *
      simp at *
      omega) (fun a b => by
      rw [rlr_lt, rlr_lt]
      simp
      omega) (rlrs l root m)
    refine h.imp (fun {a b} hab => ?_)
    rw [rlr_lt] at hab
    simp at hab
    exact hab
theorem rlr_cmp {l : List Nat} {root m n : Nat} (x y : Rlr l root m) (hx : x.1 < n) (hy : y.1 < n) : cmpRow ((List.range n).map (ruledBy l root)) x.1 y.1 = rlrC x y := by
  have h : ∀ i, i < n → rowAt ((List.range n).map (ruledBy l root)) i = ruledBy l root i := fun i hi => by simp [rowAt, hi]
  unfold cmpRow cntRow rlrC cntR
  rw [h _ hx, h _ hy]
theorem rowCmp_lays {A : Option Addr} {n c g B : Nat} (l : List Nat) (root m : Nat) [Inhabited (Rlr l root m)] (w : World) (h1 : Rd w A (fuv (ruledBy l root) n)) (hc : w.cell? ⟨B, 0, none⟩ = some (.slice A n c)) (hl : l.length = n) (hg : Good l) (hr : root < n)
    (hB : ∀ q (os : Array Obj) (ts : List (Rlr l root m)), ts.length = (rlrs l root m).length → Below g w (sortWorld rlrV w g 0 q ts.toArray os)) (hBg : B < g) (hA : ∀ b o, A = some ⟨b, o, none⟩ → b < g) :
    CmpLays1 Tryd.prog 118 #[.pointer (some ⟨B, 0, none⟩)] rlrV (rlrC (l := l) (root := root) (m := m)) g 0 (rlrs l root m).toArray.size w := by
  intro q os dk hdk x y
  have hb := hB q os dk.toList (by simpa using hdk)
  have hx : x.1 < n := by rw [← hl]; exact ruled_len hg (by omega) x.2
  have hy : y.1 < n := by rw [← hl]; exact ruled_len hg (by omega) y.2
  have hdk' : dk.toList.toArray = dk := by simp
  rw [hdk'] at hb
  have hrd : Rd (sortWorld rlrV w g 0 q dk os) A (fuv (ruledBy l root) n) := by
    intro hn
    obtain ⟨b, off, hAe, hlt, hcc⟩ := h1 hn
    exact ⟨b, off, hAe, Nat.lt_of_lt_of_le hlt hb.size, fun j u hu => (hb.cell (p := ⟨b, off + j, none⟩) (hA b off hAe)).trans (hcc j u hu)⟩
  have hcell := (hb.cell (p := ⟨B, 0, none⟩) hBg).trans hc
  refine (rowCmp_any (c := c) ((List.range n).map (ruledBy l root)) x.1 y.1 _ hrd hcell (by simp) (rowAt_all (fun s hs => ?_)) hx hy).mono ?_
  · obtain ⟨i, _, rfl⟩ := List.mem_map.1 hs
    exact (ruledBy_in l root i).b64 hg
  · rintro e w' ⟨he, k, hw⟩
    refine ⟨?_, k, #[], ?_⟩
    · rw [he, rlr_cmp x y hx hy]
    · rw [hw]; simp [World.drewN, grow]

set_option maxHeartbeats 2000000 in
theorem dRow_any {A : Option Addr} {n c : Nat} (l : List Nat) (root m : Nat) (w : World) (h1 : Rd w A (fuv (ruledBy l root) n)) (hl : l.length = n) (hg : Good l) (hT : Tab w) (hr : root < n) (hm : m < n) :
    Calls Tryd.prog 88 #[.slice A n c, .int .i64 (m : Int)] w (OwnPost 3 (domC l root m).length ((domC l root m).map nv) w) := by
  have hrl : root < l.length := by omega
  have HMB : Hid (B64 (ruledBy l root m)) := Lib.hid ((ruledBy_in l root m).b64 hg)
  have eg : ∀ args w, (callFunc 118 args).run Tryd.prog w = .ok (.enter 118 args) w := fun args w => enters_of Tryd.func118 (by kernel_rfl) rfl args w
  have HEG := Lib.hid eg
  have HTT := Lib.hid (rlr_tot (m := m) hg hrl)
  have HSO := Lib.hid (rlr_sorted (m := m) hg hrl)
  have HG := Lib.hid hg
  have HL := Lib.hid hl
  have H1 := Lib.hid h1
  have HT := Lib.hid hT
  have HLN := Lib.hid (domC_len (l := l) (root := root) (m := m))
  have hn : n ≤ 64 := by have := hg.1; omega
  obtain ⟨b, o, rfl, x1⟩ := Rd.set (l := (List.range n).map (ruledBy l root)) h1 (k := m) (by simpa using hm)
  have hrw : rowAt ((List.range n).map (ruledBy l root)) m = ruledBy l root m := by simp [rowAt, hm]
  rw [hrw] at x1
  have hblt : b < w.heap.size := lt_of_cell' x1
  clear h1 hl hg hT hrl eg hrw
  go_enter Tryd.func88, Tryd.ntmps88
  go_wp2_with fail
  refine (list_any _ HMB.out _ (HT.out.below (below_new (Below.refl _ _) _))).mono ?_
  rintro e w1 ⟨A1, c1, rfl, hown, hb1⟩
  have HO := Lib.hid hown
  have hb2 := hb1.size
  have HB := Lib.hid (below_then (below_new (Below.refl w.heap.size w) (.cells #[.slice (some ⟨b, o, none⟩) n c] 22)) hb1)
  have HCELL : Hid (w1.cell? ⟨w.heap.size, 0, none⟩ = some (.slice (some ⟨b, o, none⟩) n c)) := Lib.hid (by
    rw [hb1.cell (p := ⟨w.heap.size, 0, none⟩) (by simp)]
    rw [World.cell?_alloc_at _ _ _ _ rfl]
    rfl)
  have HR := Lib.hid (H1.out.below HB.out)
  clear hown hb1
  rcases Nat.eq_zero_or_pos (nums (ruledBy l root m)).length with h0 | h0
  · have hl0 : nums (ruledBy l root m) = [] := List.eq_nil_of_length_eq_zero h0
    have hd0 : domC l root m = [] := List.eq_nil_of_length_eq_zero (by rw [HLN.out]; exact h0)
    rw [h0] at HO ⊢
    go_wp2_with fail
    refine (Tryd.slices_SortFunc_none_f117 (α := Nat) _ _ _ _).mono ?_
    rintro e w' ⟨rfl, rfl⟩
    go_wp2_with fail
    go_ret
    exact ⟨A1, c1, by rw [hd0]; rfl, by have := HO.out; rw [hl0] at this; rw [hd0]; exact own_base this (by simp), HB.out⟩
  · have hi : Inhabited (Rlr l root m) := ⟨⟨(nums (ruledBy l root m))[0], List.getElem_mem h0⟩⟩
    have hval : (nums (ruledBy l root m)).map nv = (rlrs l root m).map rlrV := by rw [rlrV_map, rlrs_val]
    have hlen := rlrs_len l root m
    have HOW := HO.out
    rw [hval, ← hlen] at HOW
    obtain ⟨g, rfl, hg1, hg2, hH⟩ := own_holds HOW (by omega)
    have hsw : ∀ q (os : Array Obj) (ts : List (Rlr l root m)), ts.length = (rlrs l root m).length → Below g w1 (sortWorld rlrV w1 g 0 q ts.toArray os) := fun q os ts hts => by
      refine (Below.refl g w1).grown (own_sorted HOW hts q os).2 (by omega) (fun k hk => ?_)
      injection hk with hk
      omega
    have hcmp := rowCmp_lays (c := c) (g := g) (B := w.heap.size) l root m w1 HR.out HCELL.out HL.out HG.out hr hsw (by simp at hg1; omega) (fun b' o' he => by
      injection he with he
      injection he with he _ _
      subst he
      simp at hg1
      omega)
    have HTS := Lib.hid (Tryd.slices_SortFunc_total_f117 rlrV (fun _ => rfl) rlrC rlr_swo 118 #[.pointer (some ⟨w.heap.size, 0, none⟩)] g 0 c1 (rlrs l root m).toArray w1 HEG.out hcmp hH hg2 (by have := nums_len (ruledBy l root m); simp [hlen]; omega) HTT.out)
    have hsz : (rlrs l root m).toArray.size = (nums (ruledBy l root m)).length := by simp [hlen]
    rw [hsz] at HTS
    have hlt : ((rlrs l root m).mergeSort fun x y => !(ltOf rlrC) y x).length = (rlrs l root m).length := (List.mergeSort_perm _ _).length_eq
    have HS := Lib.hid (fun q os => own_sorted HOW hlt q os)
    have HSB := Lib.hid (fun q os => own_sorted_below HOW hlt hb2 q os)
    have HRN : Hid (((rlrs l root m).mergeSort fun x y => !(ltOf rlrC) y x).map rlrV = (domC l root m).map nv) := Lib.hid (by rw [rlrV_map, HSO.out])
    clear hcmp hH hsz hsw HOW hval hlt
    rw [show (rlrs l root m).toArray.toList = rlrs l root m from rfl] at HTS
    generalize hts : (rlrs l root m).mergeSort (fun x y => !(ltOf rlrC) y x) = ts at *
    go_wp2_with fail
    refine HTS.out.mono ?_
    rintro e w2 ⟨rfl, q, os, rfl⟩
    have HS1 := Lib.hid (HS.out q os)
    have HS2 := Lib.hid (HSB.out q os)
    clear HS HSB HTS
    generalize sortWorld rlrV w1 g 0 q ts.toArray os = w2 at HS1 HS2 ⊢
    go_wp2_with fail
    go_ret
    refine ⟨_, c1, ret_slice HLN.out.symm, ?_, ?_⟩
    · have h := HS1.out.1
      rw [HRN.out, hlen, ← HLN.out] at h
      exact own_base h (by simp)
    · have h := HS2.out
      exact HB.out.trans (h.mono (by simp))
end Go.Proofs.YtonmkmghpiagjaaDoor
