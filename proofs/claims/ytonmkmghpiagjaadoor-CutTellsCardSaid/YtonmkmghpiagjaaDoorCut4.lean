/- Contracts: check and newFlow of package cut. The table of math/bits lies. -/
import Derived.Test.YtonmkmghpiagjaaDoorCut3
import Derived.Test.YtonmkmghpiagjaaDoorCutPlain4
namespace Go.Proofs.YtonmkmghpiagjaaDoor
open Go.RowKit

/-- What cut.check says. -/
def cutErr (l : List Nat) (a b : Int) : Int :=
  if faultOf l [] = 0 then (if a < 0 ∨ (l.length : Int) ≤ a ∨ b < 0 ∨ (l.length : Int) ≤ b then 4 else if a = b ∨ (rowAt l a.toNat).testBit b.toNat = true then 9 else 0) else faultOf l []
theorem bit_and2 (s k : Nat) (hs : B64 s) : (bits .and .u64 ((s : Int) / 2 ^ k) 1 == 1) = s.testBit k := by
  have hc : (s : Int) / 2 ^ k = ((s / 2 ^ k : Nat) : Int) := by simp
  have hb : s / 2 ^ k < 18446744073709551616 := Nat.lt_of_le_of_lt (Nat.div_le_self _ _) hs
  have h := u64_and_nat (s / 2 ^ k) 1 hb (by decide)
  have h' : bits .and .u64 ((s : Int) / 2 ^ k) 1 = ((s / 2 ^ k &&& 1 : Nat) : Int) := by rw [hc]; exact h
  rw [h', Nat.and_one_is_mod, Nat.testBit_eq_decide_div_mod_eq, Bool.eq_iff_iff]
  simp
  omega
theorem cutErr_ok {l : List Nat} {a b : Int} (hb : Rows64 l) (h : cutErr l a b = 0) : Good l ∧ ∃ x y : Nat, a = (x : Int) ∧ b = (y : Int) ∧ x < l.length ∧ y < l.length ∧ x ≠ y ∧ ¬ Ed l x y := by
  unfold cutErr at h
  by_cases hf : faultOf l [] = 0
  · rw [if_pos hf] at h
    refine ⟨(faultOf_ok hb (by simp) hf).1, ?_⟩
    by_cases h1 : a < 0 ∨ (l.length : Int) ≤ a ∨ b < 0 ∨ (l.length : Int) ≤ b
    · rw [if_pos h1] at h; cases h
    · rw [if_neg h1] at h
      by_cases h2 : a = b ∨ (rowAt l a.toNat).testBit b.toNat = true
      · rw [if_pos h2] at h; cases h
      · refine ⟨a.toNat, b.toNat, by omega, by omega, by omega, by omega, fun e => h2 (.inl (by omega)), fun e => h2 (.inr e)⟩
  · rw [if_neg hf] at h
    exact absurd h hf
section
variable {A : Option Addr} {n c : Nat} (l : List Nat) (a b : Int) (w : World) (h1 : Rd w A (l.map uv)) (hl : l.length = n) (hnb : n ≤ 9223372036854775807) (hb : Rows64 l)
include h1 hl hnb hb
set_option maxRecDepth 4000 in
theorem cCheck_any : Calls Tryd.prog 66 #[.slice A n c, .int .i64 a, .int .i64 b] w fun e w' => e = .returned (.int .i64 (cutErr l a b)) ∧ w = w' := by
  have HC := Lib.hid (pCheck_any (c := c) l w h1 hl hnb hb)
  have H1 := Lib.hid h1
  have HL := Lib.hid hl
  have HB := Lib.hid hb
  clear h1 hl hb
  by_cases hf : faultOf l [] = 0
  · have HD : Hid (cutErr l a b = if a < 0 ∨ (n : Int) ≤ a ∨ b < 0 ∨ (n : Int) ≤ b then 4 else if a = b ∨ (rowAt l a.toNat).testBit b.toNat = true then 9 else 0) := Lib.hid (by unfold cutErr; rw [if_pos hf, HL.out])
    have HF := Lib.hid hf
    clear hf
    by_cases c1 : a < 0
    · have HE : Hid (4 = cutErr l a b) := Lib.hid (by rw [HD.out, if_pos (.inl c1)])
      go_enter Tryd.func66, Tryd.ntmps66
      go_wp2_with fail
      refine HC.out.mono ?_
      rintro e w' ⟨rfl, rfl⟩
      rw [HF.out]
      go_wp2_with fail
      go_ret
      exact ⟨ret_int HE.out, rfl⟩
    · by_cases c2 : (n : Int) ≤ a
      · have HE : Hid (4 = cutErr l a b) := Lib.hid (by rw [HD.out, if_pos (.inr (.inl c2))])
        go_enter Tryd.func66, Tryd.ntmps66
        go_wp2_with fail
        refine HC.out.mono ?_
        rintro e w' ⟨rfl, rfl⟩
        rw [HF.out]
        go_wp2_with fail
        go_ret
        exact ⟨ret_int HE.out, rfl⟩
      · by_cases c3 : b < 0
        · have HE : Hid (4 = cutErr l a b) := Lib.hid (by rw [HD.out, if_pos (.inr (.inr (.inl c3)))])
          go_enter Tryd.func66, Tryd.ntmps66
          go_wp2_with fail
          refine HC.out.mono ?_
          rintro e w' ⟨rfl, rfl⟩
          rw [HF.out]
          go_wp2_with fail
          go_ret
          exact ⟨ret_int HE.out, rfl⟩
        · by_cases c4 : (n : Int) ≤ b
          · have HE : Hid (4 = cutErr l a b) := Lib.hid (by rw [HD.out, if_pos (.inr (.inr (.inr c4)))])
            go_enter Tryd.func66, Tryd.ntmps66
            go_wp2_with fail
            refine HC.out.mono ?_
            rintro e w' ⟨rfl, rfl⟩
            rw [HF.out]
            go_wp2_with fail
            go_ret
            exact ⟨ret_int HE.out, rfl⟩
          · obtain ⟨x, rfl⟩ : ∃ x : Nat, a = (x : Int) := ⟨a.toNat, by omega⟩
            obtain ⟨y, rfl⟩ : ∃ y : Nat, b = (y : Int) := ⟨b.toNat, by omega⟩
            have hx : x < n := by omega
            have hy : y < n := by omega
            obtain ⟨bR, oR, rfl, rc⟩ := H1.out.set (k := x) (by rw [HL.out]; exact hx)
            have hn : n ≤ 64 := by rw [← HL.out]; exact (faultOf_ok HB.out (by simp) HF.out).1.1
            have hbit := bit_and2 (rowAt l x) y (HB.out x)
            have HD2 : Hid (cutErr l (x : Int) (y : Int) = if (x : Int) = (y : Int) ∨ (rowAt l x).testBit y = true then 9 else 0) := Lib.hid (by rw [HD.out, if_neg (by omega)]; rfl)
            clear HD
            by_cases hxy : x = y
            · have HE : Hid (9 = cutErr l (x : Int) (y : Int)) := Lib.hid (by rw [HD2.out, if_pos (.inl (by omega))])
              have g : ((x : Int) == (y : Int)) = true := by rw [hxy]; simp
              clear hxy
              go_enter Tryd.func66, Tryd.ntmps66
              go_wp2_with fail
              refine HC.out.mono ?_
              rintro e w' ⟨rfl, rfl⟩
              rw [HF.out]
              go_wp2_with fail
              go_ret
              exact ⟨ret_int HE.out, rfl⟩
            · have g : ((x : Int) == (y : Int)) = false := by simp only [beq_eq_false_iff_ne, ne_eq]; omega
              cases hq : (rowAt l x).testBit y
              · have HE : Hid (0 = cutErr l (x : Int) (y : Int)) := Lib.hid (by rw [HD2.out, if_neg (by rw [hq]; simp; omega)])
                rw [hq] at hbit
                clear hxy hq
                go_enter Tryd.func66, Tryd.ntmps66
                go_wp2_with fail
                refine HC.out.mono ?_
                rintro e w' ⟨rfl, rfl⟩
                rw [HF.out]
                go_wp2_with fail
                go_ret
                exact ⟨ret_int HE.out, rfl⟩
              · have HE : Hid (9 = cutErr l (x : Int) (y : Int)) := Lib.hid (by rw [HD2.out, if_pos (.inr hq)])
                rw [hq] at hbit
                clear hxy hq
                go_enter Tryd.func66, Tryd.ntmps66
                go_wp2_with fail
                refine HC.out.mono ?_
                rintro e w' ⟨rfl, rfl⟩
                rw [HF.out]
                go_wp2_with fail
                go_ret
                exact ⟨ret_int HE.out, rfl⟩
  · have HD : Hid (faultOf l [] = cutErr l a b) := Lib.hid (by unfold cutErr; rw [if_neg hf])
    have hz : (faultOf l [] != 0) = true := by simp [hf]
    clear hf
    go_enter Tryd.func66, Tryd.ntmps66
    go_wp2_with fail
    refine HC.out.mono ?_
    rintro e w' ⟨rfl, rfl⟩
    go_wp2_with fail
    go_ret
    exact ⟨ret_int HD.out, rfl⟩
end
/-! ### newFlow -/
theorem make_intsC (n : Nat) (hn : n ≤ 64) (w : World) :
    (Instr.makeSlice 24 (.int .i64 (n : Int)) (.int .i64 (n : Int))).run Tryd.prog w = .ok (.slice (some ⟨w.heap.size, 0, none⟩) n n) (w.alloc (.cells (Array.replicate n (.int .i64 0)) 3)) := by
  obtain ⟨ht, i, hi, hz, hs1, hb, _⟩ := elInt
  have hr := run_make (P := Tryd.prog) w _ _ i _ ht hi hz .i64 .i64 n n (by omega) (by omega) (by rw [hb]; omega) (by omega)
  simp only [Int.toNat_natCast] at hr
  rw [hr]
  have e : madeCells (Value.int .i64 0).cells (n * i.size) = Array.replicate n (.int .i64 0) := by
    apply Array.ext'
    rw [hs1, Nat.mul_one, show (Value.int .i64 0).cells = #[Value.int .i64 0] from rfl, toList_madeCells_one, Array.toList_replicate]
  rw [e]
theorem own_repsC (w : World) {B n : Nat} (hn : n ≤ 64) (e : TypeId) (v : Value) (hB : B ≤ w.heap.size) : (w.alloc (.cells (Array.replicate n v) e)).ownsRow B e 1 (.slice (some ⟨w.heap.size, 0, none⟩) n n) n (List.replicate n v) :=
  ⟨by simp, .inr ⟨w.heap.size, n, Array.replicate n v, rfl, hB, heap_alloc_new w _, Nat.le_refl _, by unfold maxLen; omega, by simp, by simp⟩⟩
/-- The lists, when the first k have been set. -/
def minusC (k : Nat) : Nat → Int := fun j => if j < k then -1 else 0
theorem minusC_set (k : Nat) : setF (minusC k) k (-1) = minusC (k + 1) := by
  funext j
  unfold setF minusC
  by_cases h : j = k
  · subst h; simp
  · by_cases h2 : j < k
    · have : j < k + 1 := by omega
      simp [h, h2, this]
    · have : ¬ j < k + 1 := by omega
      simp [h, h2, this]
theorem minusC_zero (n : Nat) : ((List.range n).map fun i => minusC 0 i).map iz = List.replicate n (.int .i64 0) := by
  apply List.ext_getElem
  · simp
  · intro i h1 h2
    simp [minusC, iz]
theorem flR_start (w : World) (A : Option Addr) (n c a b bN bA : Nat) (hn : n ≤ 64) (hb : (bN = w.heap.size ∧ bA = w.heap.size + 1) ∨ (bN = w.heap.size + 1 ∧ bA = w.heap.size)) :
    FlR (((w.alloc (.cells (Array.replicate n (.int .i64 0)) 3)).alloc (.cells (Array.replicate n (.int .i64 0)) 3)).alloc
      (.cells #[.slice A n c, .int .i64 (a : Int), .int .i64 (b : Int), .slice (some ⟨bN, 0, none⟩) n n, .slice (some ⟨bA, 0, none⟩) n n, .slice none 0 0] 100)) (w.heap.size + 1 + 1) bN bA A n c a b ⟨minusC 0, minusC 0, []⟩ none 0 w.heap.size := by
  have h1 : (w.alloc (.cells (Array.replicate n (.int .i64 0)) 3)).heap.size = w.heap.size + 1 := by simp
  have h2 : ((w.alloc (.cells (Array.replicate n (.int .i64 0)) 3)).alloc (.cells (Array.replicate n (.int .i64 0)) 3)).heap.size = w.heap.size + 1 + 1 := by simp
  have o1 := (own_repsC w hn 3 (.int .i64 0) (Nat.le_refl _)).alloc (.cells (Array.replicate n (.int .i64 0)) 3)
  have o2 := own_repsC (B := w.heap.size) (w.alloc (.cells (Array.replicate n (.int .i64 0)) 3)) hn 3 (.int .i64 0) (by rw [h1]; omega)
  rw [h1] at o2
  have hbox := Blk.new ((w.alloc (.cells (Array.replicate n (.int .i64 0)) 3)).alloc (.cells (Array.replicate n (.int .i64 0)) 3)) #[.slice A n c, .int .i64 (a : Int), .int .i64 (b : Int), .slice (some ⟨bN, 0, none⟩) n n, .slice (some ⟨bA, 0, none⟩) n n, .slice none 0 0] 100
  rw [h2] at hbox
  refine ⟨hbox, ?_, ?_, World.ownsRow_nil _ _ _ _, by omega, fun g hg => (by cases hg), by omega⟩
  · show _ = _ ∧ _
    rw [minusC_zero]
    rcases hb with ⟨rfl, _⟩ | ⟨rfl, _⟩
    · exact o1.alloc _
    · exact o2.alloc _
  · show _ = _ ∧ _
    rw [minusC_zero]
    rcases hb with ⟨_, rfl⟩ | ⟨_, rfl⟩
    · exact o2.alloc _
    · exact o1.alloc _
section
variable {w : World} {BF bN bA : Nat} {A : Option Addr} {n c a b : Nat} {st : Fl} {F : Option Addr} {cF base : Nat}
theorem FlR.set2 (h : FlR w BF bN bA A n c a b st F cF base) (i : Nat) (u v : Int) : FlR ((w.setCell ⟨bN, i, none⟩ (.int .i64 u)).setCell ⟨bA, i, none⟩ (.int .i64 v)) BF bN bA A n c a b ⟨setF st.nx i u, setF st.ah i v, st.fs⟩ F cF base := by
  have hN : FlR (w.setCell ⟨bN, i, none⟩ (.int .i64 u)) BF bN bA A n c a b ⟨setF st.nx i u, st.ah, st.fs⟩ F cF base := by
    refine ⟨h.box.other h.dW.1 _, ?_, ?_, ?_, h.dW, h.dF, h.low⟩
    · have h1 := (h.nx.stored i (iz u)).1
      rw [iz_set] at h1
      exact h1
    · exact ownsRow_setCell_other h.ah (by rw [ob_own]; intro e; injection e with e; exact h.dW.2.2 e.symm) _
    · exact ownsRow_setCell_other h.fs (by rw [ob_own]; intro e; exact (h.dF _ e).2.1 rfl) _
  refine ⟨hN.box.other hN.dW.2.1 _, ?_, ?_, ?_, hN.dW, hN.dF, hN.low⟩
  · exact ownsRow_setCell_other hN.nx (by rw [ob_own]; intro e; injection e with e; exact hN.dW.2.2 e) _
  · have h1 := (hN.ah.stored i (iz v)).1
    rw [iz_set] at h1
    exact h1
  · exact ownsRow_setCell_other hN.fs (by rw [ob_own]; intro e; exact (hN.dF _ e).2.2 rfl) _
theorem FlR.congr {st' : Fl} (h : FlR w BF bN bA A n c a b st F cF base) (h1 : ∀ j, j < n → st.nx j = st'.nx j) (h2 : ∀ j, j < n → st.ah j = st'.ah j) (h3 : st.fs = st'.fs) : FlR w BF bN bA A n c a b st' F cF base := by
  obtain ⟨nx, ah, fs⟩ := st
  obtain ⟨nx', ah', fs'⟩ := st'
  simp only at h1 h2 h3
  subst h3
  have e1 : ((List.range n).map fun i => nx i) = (List.range n).map fun i => nx' i := List.map_congr_left fun j hj => h1 j (List.mem_range.1 hj)
  have e2 : ((List.range n).map fun i => ah i) = (List.range n).map fun i => ah' i := List.map_congr_left fun j hj => h2 j (List.mem_range.1 hj)
  have hnx := h.nx
  have hah := h.ah
  simp only at hnx hah
  rw [e1] at hnx
  rw [e2] at hah
  exact ⟨h.box, hnx, hah, h.fs, h.dW, h.dF, h.low⟩
theorem FlR.drew (h : FlR w BF bN bA A n c a b st F cF base) : FlR w.drew BF bN bA A n c a b st F cF base := h.below (Below.drew (Below.refl _ _))
end
def firstsAt (BF : Nat) (w : World) : Nat := 65 - (match w.cell? ⟨BF, 5, none⟩ with | some (.slice _ n _) => n | _ => 0)
theorem FlR.firsts {w : World} {BF bN bA : Nat} {A : Option Addr} {n c a b : Nat} {st : Fl} {F : Option Addr} {cF base : Nat} (h : FlR w BF bN bA A n c a b st F cF base) : firstsAt BF w = 65 - st.fs.length := by
  unfold firstsAt
  rw [h.box.cell (j := 5) rfl]
def FlowEnd (l : List Nat) (W0 : World) (A : Option Addr) (n c a b : Nat) (e : Ending) (w' : World) : Prop :=
  ∃ BF bN bA F cF st R, e = .returned (.pointer (some ⟨BF, 0, none⟩)) ∧ FInv l a b st ∧ Shut l a b st R ∧ FlR w' BF bN bA A n c a b st F cF W0.heap.size ∧ Below W0.heap.size W0 w'
theorem meas_fs {x y : Nat} (h : y = x + 1) (hy : y ≤ 64) : 65 - y < 65 - x := by omega
set_option maxHeartbeats 1000000 in
set_option maxRecDepth 4000 in
theorem newFlow_any {A : Option Addr} {n c a b : Nat} (l : List Nat) (w : World) (h1 : Rd w A (l.map uv)) (hl : l.length = n) (hg : Good l) (hT : Tab w) (ha : a < n) (hb : b < n) (hab : a ≠ b) (he : ¬ Ed l a b) :
    Calls Tryd.prog 67 #[.slice A n c, .int .i64 (a : Int), .int .i64 (b : Int)] w (FlowEnd l w A n c a b) := by
  have hn : n ≤ 64 := by have := hg.1; omega
  have H1 := Lib.hid h1
  have HL := Lib.hid hl
  have HG := Lib.hid hg
  have HT := Lib.hid hT
  have HAB := Lib.hid hab
  have HE := Lib.hid he
  have hmk := make_intsC n hn
  have HSA := Lib.hid (flR_start w A n c a b w.heap.size (w.heap.size + 1) hn (.inl ⟨rfl, rfl⟩))
  have HSB := Lib.hid (flR_start w A n c a b (w.heap.size + 1) w.heap.size hn (.inr ⟨rfl, rfl⟩))
  have HBA : Hid (∀ o1 o2 o3, Below w.heap.size w (((w.alloc o1).alloc o2).alloc o3).drew) := Lib.hid (fun o1 o2 o3 => (below_new (below_new (below_new (Below.refl _ _) o1) o2) o3).drew)
  clear h1 hl hg hT hab he
  go_enter Tryd.func67, Tryd.ntmps67
  go_wp2_with fail
  go_region
  · have HK0 : Hid (FlR (((w.alloc (.cells (Array.replicate n (.int .i64 0)) 3)).alloc (.cells (Array.replicate n (.int .i64 0)) 3)).alloc (.cells #[.slice A n c, .int .i64 (a : Int), .int .i64 (b : Int), .slice (some ⟨w.heap.size, 0, none⟩) n n, .slice (some ⟨(w.heap.size + 1), 0, none⟩) n n, .slice none 0 0] 100)).drew (w.heap.size + 1 + 1) w.heap.size (w.heap.size + 1) A n c a b ⟨minusC 0, minusC 0, []⟩ none 0 w.heap.size) := Lib.hid HSA.out.drew
    have HB0 : Hid (Below w.heap.size w (((w.alloc (.cells (Array.replicate n (.int .i64 0)) 3)).alloc (.cells (Array.replicate n (.int .i64 0)) 3)).alloc (.cells #[.slice A n c, .int .i64 (a : Int), .int .i64 (b : Int), .slice (some ⟨w.heap.size, 0, none⟩) n n, .slice (some ⟨(w.heap.size + 1), 0, none⟩) n n, .slice none 0 0] 100)).drew) := Lib.hid (HBA.out _ _ _)
    generalize (((w.alloc (.cells (Array.replicate n (.int .i64 0)) 3)).alloc (.cells (Array.replicate n (.int .i64 0)) 3)).alloc (.cells #[.slice A n c, .int .i64 (a : Int), .int .i64 (b : Int), .slice (some ⟨w.heap.size, 0, none⟩) n n, .slice (some ⟨(w.heap.size + 1), 0, none⟩) n n, .slice none 0 0] 100)).drew = w0 at HK0 HB0 ⊢
    clear HSA HSB HBA hmk
    go_wp2_with fail
    go_loopw [8, 22] (fun _ x wr => ∃ k : Nat, x = .int .i64 (k : Int) ∧ k ≤ n ∧ Hid (FlR wr (w.heap.size + 1 + 1) w.heap.size (w.heap.size + 1) A n c a b ⟨minusC k, minusC k, []⟩ none 0 w.heap.size) ∧ Hid (Below w.heap.size w wr)) (fun _ x _ => n - (intOf x).toNat)
    case atStart => exact ⟨0, rfl, Nat.zero_le _, HK0, HB0⟩
    case round =>
      clear HK0 HB0
      obtain ⟨k, rfl, hk, HK, HB⟩ := hrel
      by_cases hlt : k < n
      · have y3 := HK.out.box.cell (j := 3) rfl
        have y4 := HK.out.box.cell (j := 4) rfl
        have u1 := HK.out.nxCell hlt
        have u2 := HK.out.ahCell hlt
        have f1 := HK.out.nx.frozenAt k
        have f2 := HK.out.ah.frozenAt k
        have HS : Hid (FlR ((wr.setCell ⟨w.heap.size, k, none⟩ (.int .i64 (-1))).setCell ⟨(w.heap.size + 1), k, none⟩ (.int .i64 (-1))).drew (w.heap.size + 1 + 1) w.heap.size (w.heap.size + 1) A n c a b ⟨minusC (k + 1), minusC (k + 1), []⟩ none 0 w.heap.size) := Lib.hid (by
          have h := (HK.out.set2 k (-1) (-1)).drew
          simp only [minusC_set] at h
          exact h)
        have HBS : Hid (Below w.heap.size w ((wr.setCell ⟨w.heap.size, k, none⟩ (.int .i64 (-1))).setCell ⟨(w.heap.size + 1), k, none⟩ (.int .i64 (-1))).drew) := Lib.hid ((HB.out.setCell (p := ⟨w.heap.size, k, none⟩) (show w.heap.size ≤ w.heap.size by omega) _).setCell (p := ⟨(w.heap.size + 1), k, none⟩) (show w.heap.size ≤ (w.heap.size + 1) by omega) _).drew
        go_wp2_with fail
        go_region
        clear y3 y4 u1 u2 f1 f2 HK HB
        generalize ((wr.setCell ⟨w.heap.size, k, none⟩ (.int .i64 (-1))).setCell ⟨(w.heap.size + 1), k, none⟩ (.int .i64 (-1))).drew = w10 at HS HBS ⊢
        go_wp2_with fail
        exact ⟨⟨k + 1, by first | exact val_succ k | exact (Int.natCast_succ k).symm, hlt, HS, HBS⟩, meas_lt hlt⟩
      · obtain rfl : k = n := by omega
        have HK1 : Hid (FlR wr (w.heap.size + 1 + 1) w.heap.size (w.heap.size + 1) A k c a b ⟨fun _ => -1, fun _ => -1, []⟩ none 0 w.heap.size) := Lib.hid (HK.out.congr (fun j hj => by simp [minusC, hj]) (fun j hj => by simp [minusC, hj]) rfl)
        clear HK
        go_wp2_with fail
        go_loopw [39] (fun _ wq => ∃ (st : Fl) (F : Option Addr) (cF : Nat), Hid (FInv l a b st) ∧ Hid (FlR wq (w.heap.size + 1 + 1) w.heap.size (w.heap.size + 1) A k c a b st F cF w.heap.size) ∧ Hid (Below w.heap.size w wq)) (fun _ wq => firstsAt (w.heap.size + 1 + 1) wq)
        case atStart => exact ⟨_, _, _, Lib.hid (fInv_start HAB.out HE.out), HK1, HB⟩
        case round =>
          clear HK1 HB
          obtain ⟨st, F, cF, HFI, HFL, HBW⟩ := hrel
          have HMO := Lib.hid (more_any l w wr HBW.out H1.out HL.out HG.out HT.out HFL.out HFI.out ha hb)
          go_wp2_with fail
          refine HMO.out.mono ?_
          rintro e w5 ⟨hb5, (⟨rfl, hsh, hfl⟩ | ⟨rfl, st', F', cF', hfi', hlen, hfl⟩)⟩
          · have HB5 := Lib.hid hb5
            have HSH := Lib.hid hsh
            have HFL5 := Lib.hid hfl
            clear hb5 hsh hfl
            go_wp2_with fail
            go_ret
            obtain ⟨R, hR⟩ := HSH.out
            exact ⟨_, _, _, F, cF, st, R, rfl, HFI.out, hR, HFL5.out, HB5.out⟩
          · have HM5 : Hid (firstsAt (w.heap.size + 1 + 1) w5 < firstsAt (w.heap.size + 1 + 1) wr) := Lib.hid (by
              rw [hfl.firsts, HFL.out.firsts]
              exact meas_fs hlen (by have := fs_len HG.out hfi'; have := HG.out.1; omega))
            have HB5 := Lib.hid hb5
            have HFI5 := Lib.hid hfi'
            have HFL5 := Lib.hid hfl
            clear hb5 hfi' hfl hlen HMO
            go_wp2_with fail
            exact ⟨⟨st', F', cF', HFI5, HFL5, HB5⟩, HM5.out⟩
  · have HK0 : Hid (FlR (((w.alloc (.cells (Array.replicate n (.int .i64 0)) 3)).alloc (.cells (Array.replicate n (.int .i64 0)) 3)).alloc (.cells #[.slice A n c, .int .i64 (a : Int), .int .i64 (b : Int), .slice (some ⟨(w.heap.size + 1), 0, none⟩) n n, .slice (some ⟨w.heap.size, 0, none⟩) n n, .slice none 0 0] 100)).drew (w.heap.size + 1 + 1) (w.heap.size + 1) w.heap.size A n c a b ⟨minusC 0, minusC 0, []⟩ none 0 w.heap.size) := Lib.hid HSB.out.drew
    have HB0 : Hid (Below w.heap.size w (((w.alloc (.cells (Array.replicate n (.int .i64 0)) 3)).alloc (.cells (Array.replicate n (.int .i64 0)) 3)).alloc (.cells #[.slice A n c, .int .i64 (a : Int), .int .i64 (b : Int), .slice (some ⟨(w.heap.size + 1), 0, none⟩) n n, .slice (some ⟨w.heap.size, 0, none⟩) n n, .slice none 0 0] 100)).drew) := Lib.hid (HBA.out _ _ _)
    generalize (((w.alloc (.cells (Array.replicate n (.int .i64 0)) 3)).alloc (.cells (Array.replicate n (.int .i64 0)) 3)).alloc (.cells #[.slice A n c, .int .i64 (a : Int), .int .i64 (b : Int), .slice (some ⟨(w.heap.size + 1), 0, none⟩) n n, .slice (some ⟨w.heap.size, 0, none⟩) n n, .slice none 0 0] 100)).drew = w0 at HK0 HB0 ⊢
    clear HSA HSB HBA hmk
    go_wp2_with fail
    go_loopw [8, 22] (fun _ x wr => ∃ k : Nat, x = .int .i64 (k : Int) ∧ k ≤ n ∧ Hid (FlR wr (w.heap.size + 1 + 1) (w.heap.size + 1) w.heap.size A n c a b ⟨minusC k, minusC k, []⟩ none 0 w.heap.size) ∧ Hid (Below w.heap.size w wr)) (fun _ x _ => n - (intOf x).toNat)
    case atStart => exact ⟨0, rfl, Nat.zero_le _, HK0, HB0⟩
    case round =>
      clear HK0 HB0
      obtain ⟨k, rfl, hk, HK, HB⟩ := hrel
      by_cases hlt : k < n
      · have y3 := HK.out.box.cell (j := 3) rfl
        have y4 := HK.out.box.cell (j := 4) rfl
        have u1 := HK.out.nxCell hlt
        have u2 := HK.out.ahCell hlt
        have f1 := HK.out.nx.frozenAt k
        have f2 := HK.out.ah.frozenAt k
        have HS : Hid (FlR ((wr.setCell ⟨(w.heap.size + 1), k, none⟩ (.int .i64 (-1))).setCell ⟨w.heap.size, k, none⟩ (.int .i64 (-1))).drew (w.heap.size + 1 + 1) (w.heap.size + 1) w.heap.size A n c a b ⟨minusC (k + 1), minusC (k + 1), []⟩ none 0 w.heap.size) := Lib.hid (by
          have h := (HK.out.set2 k (-1) (-1)).drew
          simp only [minusC_set] at h
          exact h)
        have HBS : Hid (Below w.heap.size w ((wr.setCell ⟨(w.heap.size + 1), k, none⟩ (.int .i64 (-1))).setCell ⟨w.heap.size, k, none⟩ (.int .i64 (-1))).drew) := Lib.hid ((HB.out.setCell (p := ⟨(w.heap.size + 1), k, none⟩) (show w.heap.size ≤ (w.heap.size + 1) by omega) _).setCell (p := ⟨w.heap.size, k, none⟩) (show w.heap.size ≤ w.heap.size by omega) _).drew
        go_wp2_with fail
        go_region
        clear y3 y4 u1 u2 f1 f2 HK HB
        generalize ((wr.setCell ⟨(w.heap.size + 1), k, none⟩ (.int .i64 (-1))).setCell ⟨w.heap.size, k, none⟩ (.int .i64 (-1))).drew = w10 at HS HBS ⊢
        go_wp2_with fail
        exact ⟨⟨k + 1, by first | exact val_succ k | exact (Int.natCast_succ k).symm, hlt, HS, HBS⟩, meas_lt hlt⟩
      · obtain rfl : k = n := by omega
        have HK1 : Hid (FlR wr (w.heap.size + 1 + 1) (w.heap.size + 1) w.heap.size A k c a b ⟨fun _ => -1, fun _ => -1, []⟩ none 0 w.heap.size) := Lib.hid (HK.out.congr (fun j hj => by simp [minusC, hj]) (fun j hj => by simp [minusC, hj]) rfl)
        clear HK
        go_wp2_with fail
        go_loopw [39] (fun _ wq => ∃ (st : Fl) (F : Option Addr) (cF : Nat), Hid (FInv l a b st) ∧ Hid (FlR wq (w.heap.size + 1 + 1) (w.heap.size + 1) w.heap.size A k c a b st F cF w.heap.size) ∧ Hid (Below w.heap.size w wq)) (fun _ wq => firstsAt (w.heap.size + 1 + 1) wq)
        case atStart => exact ⟨_, _, _, Lib.hid (fInv_start HAB.out HE.out), HK1, HB⟩
        case round =>
          clear HK1 HB
          obtain ⟨st, F, cF, HFI, HFL, HBW⟩ := hrel
          have HMO := Lib.hid (more_any l w wr HBW.out H1.out HL.out HG.out HT.out HFL.out HFI.out ha hb)
          go_wp2_with fail
          refine HMO.out.mono ?_
          rintro e w5 ⟨hb5, (⟨rfl, hsh, hfl⟩ | ⟨rfl, st', F', cF', hfi', hlen, hfl⟩)⟩
          · have HB5 := Lib.hid hb5
            have HSH := Lib.hid hsh
            have HFL5 := Lib.hid hfl
            clear hb5 hsh hfl
            go_wp2_with fail
            go_ret
            obtain ⟨R, hR⟩ := HSH.out
            exact ⟨_, _, _, F, cF, st, R, rfl, HFI.out, hR, HFL5.out, HB5.out⟩
          · have HM5 : Hid (firstsAt (w.heap.size + 1 + 1) w5 < firstsAt (w.heap.size + 1 + 1) wr) := Lib.hid (by
              rw [hfl.firsts, HFL.out.firsts]
              exact meas_fs hlen (by have := fs_len HG.out hfi'; have := HG.out.1; omega))
            have HB5 := Lib.hid hb5
            have HFI5 := Lib.hid hfi'
            have HFL5 := Lib.hid hfl
            clear hb5 hfi' hfl hlen HMO
            go_wp2_with fail
            exact ⟨⟨st', F', cF', HFI5, HFL5, HB5⟩, HM5.out⟩
end Go.Proofs.YtonmkmghpiagjaaDoor
