/- Contract of the reference: Distances. Rows are good; sets are below 2^64. -/
import Derived.Test.YtonmkmghpiagjaaDoorWayPlain2
import Derived.Test.YtonmkmghpiagjaaDoorReach4
namespace Go.Proofs.YtonmkmghpiagjaaDoor
open Go.RowKit

/-- An integer as a value. -/
def iv (z : Int) : Value := .int .i64 z
/-- The level of i, when of its row those that are done have been looked at. -/
def levMid (l : List Nat) (b d i : Nat) (done : List Nat) : Int := if lev l b d i < 0 ∧ done.any (fun k => decide (lev l b d k = (d : Int))) = true then (d : Int) + 1 else lev l b d i
theorem levMid_nil (l : List Nat) (b d i : Nat) : levMid l b d i [] = lev l b d i := by unfold levMid; simp
theorem levMid_end (l : List Nat) (b d i : Nat) : levMid l b d i (nums (rowAt l i)) = lev l b (d + 1) i := rfl
/-- What stands in the list while row i is looked at. -/
def levAt (l : List Nat) (b d i : Nat) (done : List Nat) (x : Nat) : Int := if x < i then lev l b (d + 1) x else if x = i then levMid l b d i done else lev l b d x
theorem levAt_self (l : List Nat) (b d i : Nat) (done : List Nat) : levAt l b d i done i = levMid l b d i done := by unfold levAt; simp
theorem levAt_other {l : List Nat} {b d i : Nat} {done : List Nat} (k : Nat) (hneg : levMid l b d i done < 0) : levAt l b d i done k = (d : Int) ↔ lev l b d k = (d : Int) := by
  unfold levAt
  split
  · show (if lev l b d k < 0 ∧ (nums (rowAt l k)).any (fun k => decide (lev l b d k = (d : Int))) = true then (d : Int) + 1 else lev l b d k) = (d : Int) ↔ _
    split
    · rename_i h
      omega
    · exact Iff.rfl
  · split
    · rename_i h
      subst h
      unfold levMid at hneg ⊢
      split at hneg
      · omega
      · rename_i h2
        rw [if_neg h2]
    · exact Iff.rfl
theorem levMid_yes {l : List Nat} {b d i k : Nat} {done : List Nat} (hneg : levMid l b d i done < 0) (hk : levAt l b d i done k = (d : Int)) : levMid l b d i (done ++ [k]) = (d : Int) + 1 := by
  have h1 := (levAt_other k hneg).1 hk
  have h2 : lev l b d i < 0 := by
    unfold levMid at hneg
    split at hneg
    · omega
    · exact hneg
  unfold levMid
  rw [if_pos]
  refine ⟨h2, ?_⟩
  rw [List.any_append]
  simp [h1]
theorem levMid_no {l : List Nat} {b d i k : Nat} {done : List Nat} (h : ¬ (levMid l b d i done < 0 ∧ levAt l b d i done k = (d : Int))) : levMid l b d i (done ++ [k]) = levMid l b d i done := by
  by_cases hneg : levMid l b d i done < 0
  · have hk : ¬ lev l b d k = (d : Int) := fun e => h ⟨hneg, (levAt_other k hneg).2 e⟩
    unfold levMid
    rw [List.any_append]
    simp [hk]
  · unfold levMid at hneg ⊢
    split at hneg
    · rename_i h2
      rw [if_pos h2, if_pos]
      refine ⟨h2.1, ?_⟩
      rw [List.any_append, h2.2]
      rfl
    · have : ¬ lev l b d i < 0 := hneg
      simp [this]
theorem levAt_start (l : List Nat) (b d i : Nat) (x : Nat) : levAt l b d i [] x = if x < i then lev l b (d + 1) x else lev l b d x := by
  unfold levAt
  rw [levMid_nil]
  by_cases h1 : x < i
  · simp [h1]
  · by_cases h2 : x = i
    · subst h2; simp
    · simp [h1, h2]
theorem levAt_end (l : List Nat) (b d i : Nat) (x : Nat) : levAt l b d i (nums (rowAt l i)) x = levAt l b d (i + 1) [] x := by
  rw [levAt_start]
  unfold levAt
  rw [levMid_end]
  by_cases h1 : x < i
  · have : x < i + 1 := by omega
    simp [h1, this]
  · by_cases h2 : x = i
    · subst h2; simp
    · have : ¬ x < i + 1 := by omega
      simp [h1, h2, this]
theorem levAt_set (l : List Nat) (b d i : Nat) (done : List Nat) (k : Nat) (v : Int) (hv : levMid l b d i (done ++ [k]) = v) (x : Nat) : (if x = i then v else levAt l b d i done x) = levAt l b d i (done ++ [k]) x := by
  unfold levAt
  by_cases h1 : x = i
  · subst h1; simp [hv]
  · simp [h1]
theorem levAt_keep (l : List Nat) (b d i : Nat) (done : List Nat) (k : Nat) (hv : levMid l b d i (done ++ [k]) = levMid l b d i done) (x : Nat) : levAt l b d i (done ++ [k]) x = levAt l b d i done x := by
  unfold levAt
  rw [hv]
theorem lev_bounds {l : List Nat} (hg : Good l) {b : Nat} (hb : InRows l b) (d x : Nat) : -1 ≤ lev l b d x ∧ lev l b d x ≤ d := by
  obtain ⟨a1, a2, a3⟩ := lev_ring hg hb d x
  by_cases h : lev l b d x < 0
  · have := a3 h; omega
  · have := (a1 (lev l b d x).toNat).1 (by omega)
    omega
theorem levAt_bounds {l : List Nat} (hg : Good l) {b : Nat} (hb : InRows l b) (d i : Nat) (done : List Nat) (x : Nat) : -1 ≤ levAt l b d i done x ∧ levAt l b d i done x ≤ d + 1 := by
  have h1 := lev_bounds hg hb (d + 1) x
  have h2 := lev_bounds hg hb d x
  have h3 := lev_bounds hg hb d i
  unfold levAt levMid
  split
  · omega
  · split
    · split <;> omega
    · omega

/-- The first loop's list. -/
def lev0 (l : List Nat) (b i x : Nat) : Int := if x < i then lev l b 0 x else 0
theorem lev0_set (l : List Nat) (b i x : Nat) : (if x = i then lev l b 0 i else lev0 l b i x) = lev0 l b (i + 1) x := by
  unfold lev0
  by_cases h1 : x = i
  · subst h1; simp
  · by_cases h2 : x < i
    · have : x < i + 1 := by omega
      simp [h1, h2, this]
    · have : ¬ x < i + 1 := by omega
      simp [h1, h2, this]
theorem zero_ints (n : Nat) (l : List Nat) (b : Nat) : List.replicate n (Value.int .i64 0) = ((List.range n).map (lev0 l b 0)).map iv := by
  apply List.ext_getElem?
  intro i
  rw [List.getElem?_map, List.getElem?_map, List.getElem?_replicate]
  by_cases hi : i < n
  · simp [hi, lev0, iv]
  · simp [hi]
theorem own_row_set {w : World} {B g E n c q : Nat} {f : Nat → Int} {v : Int} (h : w.ownsRow B E 1 (.slice (some ⟨g, 0, none⟩) n c) n (((List.range n).map f).map iv)) :
    (w.setCell ⟨g, q, none⟩ (.int .i64 v)).ownsRow B E 1 (.slice (some ⟨g, 0, none⟩) n c) n (((List.range n).map (fun x => if x = q then v else f x)).map iv) ∧ w.grownBy (w.setCell ⟨g, q, none⟩ (.int .i64 v)) (some g) := by
  have := h.stored q (.int .i64 v)
  rw [show (Value.int .i64 v) = iv v from rfl, ← List.map_set, map_range_set] at this
  exact this
theorem own_row_cell {w : World} {B g E n c q : Nat} {f : Nat → Int} (h : w.ownsRow B E 1 (.slice (some ⟨g, 0, none⟩) n c) n (((List.range n).map f).map iv)) (hq : q < n) :
    w.cell? ⟨g, q, none⟩ = some (.int .i64 (f q)) := by
  rw [h.cellAt q (by omega)]
  simp [hq, iv]

set_option maxHeartbeats 2000000 in
theorem rDistances_any {A : Option Addr} {n c : Nat} (l : List Nat) (b : Nat) (w : World) (h1 : Rd w A (l.map uv)) (hl : l.length = n) (hg : Good l) (hb : InRows l b) :
    Calls Tryd.prog 65 #[.slice A n c, .int .u64 b] w (OwnPost 3 n (((List.range n).map (lev l b n)).map iv) w) := by
  have hn : n ≤ 64 := by have := hg.1; omega
  have HL := Lib.hid hl
  have HG := Lib.hid hg
  have HIB := Lib.hid hb
  have HB := Lib.hid (hb.b64 hg)
  have H1 := Lib.hid h1
  clear hl hg hb h1
  go_enter Tryd.func65, Tryd.ntmps65
  go_wp2_with (at_make; refine wpList_new elInt rfl w _ w.heap.size n .i64 (by omega) (by omega) (Nat.le_refl _) rfl rfl rfl ?_)
  intro w0 hown0 hb0 hlt0
  rw [zero_ints n l b] at hown0
  have HO0 := Lib.hid hown0
  have HB0 := Lib.hid hb0
  have HLT0 := Lib.hid hlt0
  clear hown0 hb0 hlt0
  go_wp2
  go_loopw [6, 16] (fun _ i wr => ∃ k : Nat, k ≤ n ∧ i = .int .i64 k ∧ Hid (w.heap.size < wr.heap.size) ∧ Hid (wr.ownsRow w.heap.size 3 1 (.slice (some ⟨w.heap.size, 0, none⟩) n n) n (((List.range n).map (lev0 l b k)).map iv)) ∧ Hid (Below w.heap.size w wr)) (fun _ i _ => n - (intOf i).toNat)
  case atStart => exact ⟨0, by omega, rfl, HLT0, HO0, HB0⟩
  case round =>
    obtain ⟨i, hi, rfl, hlt1, hown, hbw⟩ := hrel
    by_cases hlt : i < n
    · have hc := own_row_cell hown.out hlt
      have hf := hown.out.frozenAt i
      cases hbit : b.testBit i with
      | true =>
        have HE : Hid (lev l b 0 i = 0) := Lib.hid (by unfold lev; rw [hbit]; rfl)
        have HS := Lib.hid (own_row_set (q := i) (v := 0) (own_row_set (q := i) (v := -1) hown.out).1).1
        have HBS := Lib.hid ((hbw.out.setCell (p := ⟨w.heap.size, i, none⟩) (Nat.le_refl _) (.int .i64 (-1))).setCell (p := ⟨w.heap.size, i, none⟩) (Nat.le_refl _) (.int .i64 0))
        have HSET : Hid (∀ x, (if x = i then (0 : Int) else if x = i then -1 else lev0 l b i x) = lev0 l b (i + 1) x) := Lib.hid (fun x => by
          rw [← lev0_set, HE.out]
          by_cases h : x = i <;> simp [h])
        clear hown hbw
        go_wp2_with (go_at_call 17; refine (in_nat _ HB.out _ _).mono ?_; rintro e w' ⟨rfl, rfl⟩)
        go_roundw
        case rel => exact ⟨i + 1, by omega, by go_num, Lib.hid (by simpa [World.setCell] using hlt1.out), Lib.hid (by rw [← List.map_congr_left (fun x _ => HSET.out x)]; exact HS.out), HBS⟩
        case measure => simp [intOf]; omega
      | false =>
        have HE : Hid (lev l b 0 i = -1) := Lib.hid (by unfold lev; rw [hbit]; rfl)
        have HS := Lib.hid (own_row_set (q := i) (v := -1) hown.out).1
        have HBS := Lib.hid (hbw.out.setCell (p := ⟨w.heap.size, i, none⟩) (Nat.le_refl _) (.int .i64 (-1)))
        have HSET : Hid (∀ x, (if x = i then (-1 : Int) else lev0 l b i x) = lev0 l b (i + 1) x) := Lib.hid (fun x => by
          rw [← lev0_set, HE.out])
        clear hown hbw
        go_wp2_with (go_at_call 17; refine (in_nat _ HB.out _ _).mono ?_; rintro e w' ⟨rfl, rfl⟩)
        go_roundw
        case rel => exact ⟨i + 1, by omega, by go_num, Lib.hid (by simpa [World.setCell] using hlt1.out), Lib.hid (by rw [← List.map_congr_left (fun x _ => HSET.out x)]; exact HS.out), HBS⟩
        case measure => simp [intOf]; omega
    · obtain rfl : i = n := by omega
      have hst := hown.out
      rw [List.map_congr_left (g := lev l b 0) (fun x hx => by unfold lev0; rw [if_pos (List.mem_range.1 hx)])] at hst
      have HST := Lib.hid hst
      clear hst hown
      go_wp2
      go_loopw [7, 8, 10, 37, 44, 45, 46] (fun d _ _ _ _ _ _ wq => ∃ k : Nat, k ≤ i ∧ d = .int .i64 k ∧ Hid (w.heap.size < wq.heap.size) ∧ Hid (wq.ownsRow w.heap.size 3 1 (.slice (some ⟨w.heap.size, 0, none⟩) i i) i (((List.range i).map (lev l b k)).map iv)) ∧ Hid (Below w.heap.size w wq)) (fun d _ _ _ _ _ _ _ => i - (intOf d).toNat)
      case atStart => exact ⟨0, by omega, rfl, hlt1, HST, hbw⟩
      case round =>
        clear hlt1 HST hbw hi hlt
        obtain ⟨d, hd, rfl, hlt1, hown, hbw⟩ := hrel
        by_cases hdn : d < i
        · have hst := hown.out
          rw [List.map_congr_left (g := levAt l b d 0 []) (fun x _ => by rw [levAt_start]; simp)] at hst
          have HST := Lib.hid hst
          clear hst hown
          go_wp2
          go_loopw [8, 10, 37, 44, 45, 46] (fun _ _ q _ _ _ wq => ∃ k : Nat, k ≤ i ∧ q = .int .i64 k ∧ Hid (w.heap.size < wq.heap.size) ∧ Hid (wq.ownsRow w.heap.size 3 1 (.slice (some ⟨w.heap.size, 0, none⟩) i i) i (((List.range i).map (levAt l b d k [])).map iv)) ∧ Hid (Below w.heap.size w wq)) (fun _ _ q _ _ _ _ => i - (intOf q).toNat)
          case atStart => exact ⟨0, by omega, rfl, hlt1, HST, hbw⟩
          case round =>
            clear hlt1 HST hbw
            obtain ⟨x, hx, rfl, hlt1, hown, hbw⟩ := hrel
            by_cases hxn : x < i
            · have HXB := Lib.hid (HG.out.b64 x)
              have hxl : x < l.length := by rw [HL.out]; exact hxn
              obtain ⟨b1, o1, rfl, x1⟩ := (H1.out.below hbw.out).set hxl
              clear hxl
              go_wp2_with fail
              refine (rNumbers_any _ HXB.out _).mono ?_
              rintro e w2 ⟨A2, c2, rfl, hown2, hb2⟩
              have HR2 := Lib.hid hown2
              have hlen2 := nums_len (rowAt l x)
              have hwr : w.heap.size < wr.heap.size := hlt1.out
              have HO2 := Lib.hid (own_below hown.out hb2)
              have HBE := Lib.hid (hbw.out.trans (hb2.mono hbw.out.size))
              have HSZ : Hid (w.heap.size < w2.heap.size) := Lib.hid (Nat.lt_of_lt_of_le hlt1.out hb2.size)
              clear hown2 hb2 hown hbw
              go_wp2_with fail
              go_loopw [10, 46] (fun _ j wq => ∃ k : Nat, k ≤ (nums (rowAt l x)).length ∧ j = .int .i64 k ∧ Hid (w.heap.size < wq.heap.size) ∧ Hid (wq.ownsRow w.heap.size 3 1 (.slice (some ⟨w.heap.size, 0, none⟩) i i) i (((List.range i).map (levAt l b d x ((nums (rowAt l x)).take k))).map iv)) ∧ Hid (Below w.heap.size w wq) ∧ Hid (wq.ownsRow wr.heap.size 3 1 (.slice A2 (nums (rowAt l x)).length c2) (nums (rowAt l x)).length ((nums (rowAt l x)).map nv))) (fun _ j _ => (nums (rowAt l x)).length - (intOf j).toNat)
              case atStart => exact ⟨0, by omega, rfl, HSZ, HO2, HBE, HR2⟩
              case round =>
                clear HSZ HO2 HBE HR2 x1
                obtain ⟨k, hk, rfl, hsz, hown, hbw, hr⟩ := hrel
                by_cases hkl : k < (nums (rowAt l x)).length
                · obtain ⟨b2, o2, rfl, hc⟩ := (Rd.of_own hr.out).at_ (k := k) (by simpa using hkl)
                  have hc' : wr.cell? ⟨b2, o2 + k, none⟩ = some (.int .i64 ((nums (rowAt l x))[k]?.getD 0 : Nat)) := by rw [hc]; simp [nv, hkl]
                  have hqm : (nums (rowAt l x))[k]?.getD 0 ∈ nums (rowAt l x) := by simp [hkl]
                  have hqn : (nums (rowAt l x))[k]?.getD 0 < i := by
                    have := HG.out.2 x _ ((mem_nums HXB.out).1 hqm)
                    rw [HL.out] at this; exact this
                  have HTK := Lib.hid (take_snoc (nums (rowAt l x)) 0 k hkl)
                  clear hc hqm
                  generalize (nums (rowAt l x))[k]?.getD 0 = q at *
                  have hcx := own_row_cell hown.out hxn
                  rw [levAt_self] at hcx
                  have hcq := own_row_cell hown.out hqn
                  have hfx := hown.out.frozenAt x
                  have hbx := levAt_bounds HG.out HIB.out d x ((nums (rowAt l x)).take k) x
                  rw [levAt_self] at hbx
                  have HYES := Lib.hid (fun h1 h2 => levMid_yes (l := l) (b := b) (d := d) (i := x) (k := q) (done := (nums (rowAt l x)).take k) h1 h2)
                  have HNO := Lib.hid (fun h => levMid_no (l := l) (b := b) (d := d) (i := x) (k := q) (done := (nums (rowAt l x)).take k) h)
                  have HKEEP := Lib.hid (levAt_keep l b d x ((nums (rowAt l x)).take k) q)
                  have HSET := Lib.hid (levAt_set l b d x ((nums (rowAt l x)).take k) q)
                  have HROW := Lib.hid (fun v => own_row_set (q := x) (v := v) hown.out)
                  generalize hM : levMid l b d x ((nums (rowAt l x)).take k) = M at *
                  generalize levAt l b d x ((nums (rowAt l x)).take k) q = Q at *
                  clear hM
                  by_cases hneg : M < 0
                  · by_cases hqd : Q = (d : Int)
                    · have HV := Lib.hid (HYES.out hneg hqd)
                      have HBS := Lib.hid (hbw.out.setCell (p := ⟨w.heap.size, x, none⟩) (Nat.le_refl _) (.int .i64 ((d : Int) + 1)))
                      have HRS := Lib.hid (own_far hr.out (HROW.out ((d : Int) + 1)).2 hwr)
                      have HRW := Lib.hid (HROW.out ((d : Int) + 1)).1
                      have hqd' : (Q == (d : Int)) = true := by simp [hqd]
                      clear hown hbw hr hqd
                      go_wp2
                      go_roundw
                      case rel => exact ⟨k + 1, by omega, by go_num, Lib.hid (by simpa [World.setCell] using hsz.out), Lib.hid (by rw [HTK.out, ← List.map_congr_left (fun y _ => HSET.out _ HV.out y)]; exact HRW.out), HBS, HRS⟩
                      case measure => simp [intOf]; omega
                    · have HV := Lib.hid (HNO.out (fun h => hqd h.2))
                      have hqd' : (Q == (d : Int)) = false := by simp [hqd]
                      clear hqd
                      go_wp2
                      go_roundw
                      case rel => exact ⟨k + 1, by omega, by go_num, hsz, Lib.hid (by rw [HTK.out, List.map_congr_left (fun y _ => HKEEP.out HV.out y)]; exact hown.out), hbw, hr⟩
                      case measure => simp [intOf]; omega
                  · have HV := Lib.hid (HNO.out (fun h => hneg h.1))
                    go_wp2
                    go_roundw
                    case rel => exact ⟨k + 1, by omega, by go_num, hsz, Lib.hid (by rw [HTK.out, List.map_congr_left (fun y _ => HKEEP.out HV.out y)]; exact hown.out), hbw, hr⟩
                    case measure => simp [intOf]; omega
                · obtain rfl : k = (nums (rowAt l x)).length := by omega
                  have hst := hown.out
                  rw [List.take_of_length_le (Nat.le_refl _), List.map_congr_left (fun y _ => levAt_end l b d x y)] at hst
                  have HST := Lib.hid hst
                  clear hst hown hr
                  go_wp2
                  go_roundw
                  case rel => exact ⟨x + 1, by omega, by go_num, hsz, HST, hbw⟩
                  case measure => simp [intOf]; omega
            · obtain rfl : x = i := by omega
              have hst := hown.out
              rw [List.map_congr_left (g := lev l b (d + 1)) (fun y hy => by rw [levAt_start, if_pos (List.mem_range.1 hy)])] at hst
              have HST := Lib.hid hst
              clear hst hown
              go_wp2
              go_roundw
              case rel => exact ⟨d + 1, by omega, by go_num, hlt1, HST, hbw⟩
              case measure => simp [intOf]; omega
        · obtain rfl : d = i := by omega
          go_wp2
          go_ret
          exact ⟨_, _, rfl, hown.out, hbw.out⟩
end Go.Proofs.YtonmkmghpiagjaaDoor
