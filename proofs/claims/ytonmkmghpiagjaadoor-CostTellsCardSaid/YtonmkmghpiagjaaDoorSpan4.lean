/- Contract: the reference's TimesSorted. Lengths below 2^43. -/
import Derived.Test.YtonmkmghpiagjaaDoorSpan3
import Derived.Test.YtonmkmghpiagjaaDoorOwnAt
import Derived.Deep.RegionLaw
import Derived.IntWalk
import Derived.Deep.RegionLawGrows
namespace Go.Proofs.YtonmkmghpiagjaaDoor
open Go.RowKit

/-- What is left: to be read, with room for its length, in another block than the row ob. -/
structure LeftAt (w : World) (A : Option Addr) (n c : Nat) (ob : Option Nat) (l : List UInt64) : Prop where
  rd : Rd w A (l.map fv)
  len : l.length = n
  cap : n ≤ c
  ne : ∀ b off, A = some ⟨b, off, none⟩ → b < w.heap.size ∧ some b ≠ ob
theorem rd_grown {w w' : World} {o : Obj} {ob : Option Nat} {A : Option Addr} {xs : List Value} (h : Rd w A xs) (hne : ∀ b off, A = some ⟨b, off, none⟩ → b < w.heap.size ∧ some b ≠ ob) (hg : (w.alloc o).grownBy w' ob) : Rd w' A xs := fun hx => by
  obtain ⟨b, off, rfl, hb, hc⟩ := h hx
  have hsz : b < (w.alloc o).heap.size := by simp; omega
  refine ⟨b, off, rfl, Nat.lt_of_lt_of_le hsz hg.size, fun j u hu => ?_⟩
  have h1 : (w.alloc o).cell? ⟨b, off + j, none⟩ = some u := (World.cell?_alloc_lt w o _ hb).trans (hc j u hu)
  exact (World.cell?_of_block (a := ⟨b, off + j, none⟩) (hg.block b hsz (hne b off rfl).2)).trans h1
theorem LeftAt.grown {w w' : World} {o : Obj} {ob ob' : Option Nat} {A : Option Addr} {n c : Nat} {l : List UInt64} (h : LeftAt w A n c ob l) (hg : (w.alloc o).grownBy w' ob) (hat : ob' = ob ∨ ob' = some (w.heap.size + 1)) : LeftAt w' A n c ob' l :=
  ⟨rd_grown h.rd h.ne hg, h.len, h.cap, fun b off hA => by
    obtain ⟨h1, h2⟩ := h.ne b off hA
    refine ⟨Nat.lt_of_lt_of_le (by simp; omega) hg.size, ?_⟩
    rcases hat with rfl | rfl
    · exact h2
    · intro e; injection e with e; omega⟩
theorem LeftAt.of_own {w : World} {B E n c : Nat} {A : Option Addr} {ob : Option Nat} {l : List UInt64} (h : w.ownsRow B E 1 (.slice A n c) n (l.map fv)) (hl : l.length = n) (hne : ∀ b, ob = some b → b < B) : LeftAt w A n c ob l := by
  refine ⟨Rd.of_own h, hl, ?_, fun b off hA => ?_⟩
  · rcases h.2 with ⟨hv, h0⟩ | ⟨g, cap, cur, hv, _, _, h1, _⟩
    · omega
    · injection hv with _ _ hc; omega
  · have hlt := h.lt b (by rw [hA]; rfl)
    exact ⟨hlt.2, fun e => by have := hne b e.symm; omega⟩
theorem run_append_zero {P : Program} (w : World) (t ty e : TypeId) (i : TypeInfo) (ht : P.underlying t = some (.slice e)) (hi : P.info? e = some i) (ad : Addr) (n c : Nat) (a2 : Option Addr) (c2 : Nat) (hc : n ≤ c) :
    (Builtin.append_ #[t, t] ty #[.slice (some ad) n c, .slice a2 0 c2]).run P w = .ok (.slice (some ad) n c) w := by
  cases a2 with
  | none => simp [Builtin.append_, run_underlying ht, sizeOf, typeInfo, hi, Builtin.lenOf, Builtin.firstCells, hc, storeCells]
  | some b => simp [Builtin.append_, run_underlying ht, sizeOf, typeInfo, hi, Builtin.lenOf, Builtin.firstCells, hc, storeCells, loadCells, loadCellsFrom]
theorem step_append_zero {P : Program} {ops : Array Oper} {o : Oper} {a : Act} {w : World} {K : Act → World → Prop} {Q : Exit → Act → World → Prop} {E : Prop}
    (hg : o.guard = none) (s x : Operand) (t : TypeId) (hop : o.op = Op.call { callee := Callee.builtin Builtin.append, args := #[s, x], argTypes := #[t, t] })
    (e : TypeId) (i : TypeInfo) (h1 : P.underlying t = some (.slice e)) (h2 : P.info? e = some i) (ad : Addr) (n cap : Nat) (hs : a.eval s = .slice (some ad) n cap) (hc : n ≤ cap)
    (a2 : Option Addr) (c2 : Nat) (hx : a.eval x = .slice a2 0 c2) (hK : K (a.put o.dst (.slice (some ad) n cap)) w) :
    if Region.wanted o (yielded ops a.tmps) = true then Oper.wp P o a w K Q else E := by
  have hw : Region.wanted o (yielded ops a.tmps) = true := by simp [Region.wanted, hg]
  rw [if_pos hw]
  have hrun := run_append_zero (P := P) w t o.type e i h1 h2 ad n cap a2 c2 hc
  unfold Oper.wp
  simp [execOp, hop, resolve, invoke, builtin, hs, hx, hrun, Result.andThen]
  exact hK
theorem below_drew' {B : Nat} {a w : World} (h : Below B a w) : Below B a w.drew := ⟨h.os, h.tape, h.output, h.size, h.block⟩
theorem leftAt_last {w : World} {b off j c : Nat} {ob : Option Nat} {left : List UInt64} (h : LeftAt w (some ⟨b, off, none⟩) (j + 1) c ob left) : LeftAt w.drew (some ⟨b, off, none⟩) j j ob (left.take j ++ left.drop (j + 1)) := by
  have e : left.drop (j + 1) = [] := List.drop_eq_nil_of_le (by rw [h.len]; exact Nat.le_refl _)
  rw [e, List.append_nil]
  refine ⟨fun hx => ?_, by rw [List.length_take, h.len]; omega, Nat.le_refl _, h.ne⟩
  obtain ⟨b', off', hA, hb', hc⟩ := h.rd (by rw [List.length_map, h.len]; omega)
  refine ⟨b', off', hA, hb', fun i u hu => hc i u ?_⟩
  rw [List.map_take, List.getElem?_take] at hu
  split at hu
  · exact hu
  · cases hu
theorem addr_add (b off i : Nat) : (⟨b, off, none⟩ : Addr).add i = ⟨b, off + i, none⟩ := by
  unfold Addr.add
  split
  · rename_i h; subst h; rfl
  · rfl
theorem leftAt_head {w : World} {b off n c j : Nat} {ob : Option Nat} {left : List UInt64} (h : LeftAt w (some ⟨b, off, none⟩) n c ob left) (_ : j ≤ n) :
    ∀ a : Addr, some (⟨b, off, none⟩ : Addr) = some a → ∀ i u, ((left.take j).map fv)[i]? = some u → w.drew.cell? (a.add i) = some u := by
  intro a ha i u hu
  injection ha with ha
  subst ha
  rw [addr_add]
  have hi : ((left.map fv))[i]? = some u := by
    rw [List.map_take, List.getElem?_take] at hu
    split at hu
    · exact hu
    · cases hu
  obtain ⟨b', off', hA, _, hc⟩ := h.rd (by have := (List.getElem?_eq_some_iff.1 hi).1; omega)
  injection hA with hA
  injection hA with h1 h2 _
  subst h1 h2
  exact hc i u hi
theorem leftAt_tail {w : World} {b off n c j : Nat} {ob : Option Nat} {left : List UInt64} (h : LeftAt w (some ⟨b, off, none⟩) n c ob left) (_ : j ≤ n) :
    ∀ i u, ((left.drop j).map fv)[i]? = some u → w.drew.cell? ((⟨b, off + j, none⟩ : Addr).add i) = some u := by
  intro i u hu
  rw [addr_add, Nat.add_assoc]
  have hi : ((left.map fv))[j + i]? = some u := by
    rw [List.map_drop, List.getElem?_drop] at hu
    exact hu
  obtain ⟨b', off', hA, _, hc⟩ := h.rd (by have := (List.getElem?_eq_some_iff.1 hi).1; omega)
  injection hA with hA
  injection hA with h1 h2 _
  subst h1 h2
  exact hc (j + i) u hi
theorem least_start {l : List UInt64} {x : UInt64} (h : l[0]? = some x) : LeastAt l 0 0 x := ⟨h, fun _ _ hj => absurd hj (Nat.not_lt_zero _)⟩
theorem cf_neg {x m : UInt64} : cfT x m < 0 ↔ keyN x < keyN m := by
  unfold cfT
  constructor
  · intro h
    split at h
    · omega
    · split at h <;> omega
  · intro h
    rw [if_pos h]; omega
theorem least_down {l : List UInt64} {i k : Nat} {m x : UInt64} (h : LeastAt l i k m) (hx : l[i]? = some x) (hlt : keyN x < keyN m) : LeastAt l (i + 1) i x := ⟨hx, fun j y hj hy => by
  rcases Nat.lt_or_ge j i with h1 | h1
  · have := h.2 j y h1 hy; omega
  · obtain rfl : j = i := by omega
    rw [hx] at hy; injection hy with hy; rw [hy]; exact Nat.le_refl _⟩
theorem least_keep {l : List UInt64} {i k : Nat} {m x : UInt64} (h : LeastAt l i k m) (hx : l[i]? = some x) (hlt : ¬ keyN x < keyN m) : LeastAt l (i + 1) k m := ⟨h.1, fun j y hj hy => by
  rcases Nat.lt_or_ge j i with h1 | h1
  · exact h.2 j y h1 hy
  · obtain rfl : j = i := by omega
    rw [hx] at hy; injection hy with hy; rw [← hy]; omega⟩
theorem least_all {l : List UInt64} {k : Nat} {m : UInt64} (h : LeastAt l l.length k m) : ∀ y ∈ l, keyN m ≤ keyN y := fun y hy => by
  obtain ⟨j, hj⟩ := List.mem_iff_getElem?.1 hy
  exact h.2 j y (List.getElem?_eq_some_iff.1 hj).1 hj
def sliceLenF : Value → Nat
  | .slice _ n _ => n
  | _ => 0
/-- What holds between two picks. -/
def TsRel (n : Nat) (l : List UInt64) (w : World) (lf v : Value) (wr : World) : Prop :=
  ∃ (m k : Nat) (A2 A3 : Option Addr) (c2 c3 : Nat) (out left : List UInt64), m + k = n ∧ lf = .slice A2 m c2 ∧ v = .slice A3 k c3 ∧ Hid (Sel l out left) ∧ Hid (out.length = k) ∧
    Hid (wr.ownsRow w.heap.size 56 1 (.slice A3 k c3) k (out.map fv)) ∧ Hid (LeftAt wr A2 m c2 (Value.slice A3 k c3).ownBlock left) ∧ Hid (Below w.heap.size w wr)
set_option maxRecDepth 100000 in
set_option maxHeartbeats 2000000 in
theorem rTimesSorted_any {A : Option Addr} {n c : Nat} (l : List UInt64) (w : World) (hr : Rd w A (l.map fv)) (hn : l.length = n) (hb : n * 8 ≤ 140737488355328) :
    Calls Tryd.prog 39 #[.slice A n c] w (OwnP 56 n ((tsort l).map fv) w) := by
  have HR := Lib.hid hr
  have HN := Lib.hid hn
  have HTL : Hid ((tsort l).length = n) := Lib.hid (by rw [tsort_len]; exact hn)
  clear hr hn
  go_enter Tryd.func39, Tryd.ntmps39
  go_wp2_with (at_builtin; refine wpList_cat elF64 w _ _ w.heap.size none 0 0 [] A n c (l.map fv) (World.ownsRow_nil _ _ _ _) HR.out (by rw [List.length_map]; exact HN.out) (fv_one l) (Nat.le_refl _) (by omega) (by omega) rfl rfl rfl rfl ?_; intro A1 c1 w1 hown1 hb1)
  rw [Nat.zero_add, List.nil_append] at hown1
  have HB1 := Lib.hid hb1
  have HL1 : Hid (LeftAt w1 A1 n c1 none l) := Lib.hid (LeftAt.of_own hown1 HN.out (fun b h => by cases h))
  have hsz1 : w.heap.size ≤ w1.heap.size := hb1.size
  clear hown1 hb1
  go_wp2_with fail
  go_loopw [3, 4, 5, 6, 7, 15] (fun lf v _ _ _ _ wr => TsRel n l w lf v wr) (fun lf _ _ _ _ _ _ => sliceLenF lf)
  case atStart => exact ⟨n, 0, A1, none, c1, 0, [], l, by omega, rfl, rfl, Lib.hid (sel_start l), Lib.hid rfl, Lib.hid (World.ownsRow_nil _ _ _ _), HL1, HB1⟩
  case round =>
    clear HL1 HB1
    obtain ⟨m, k, A2, A3, c2, c3, out, left, hmk, rfl, rfl, hsel, hol, hown, hleft, hbw⟩ := hrel
    by_cases hm0 : 0 < m
    · have hlen := hleft.out.len
      obtain ⟨x0, hx0⟩ : ∃ x, left[0]? = some x := ⟨_, List.getElem?_eq_getElem (by omega)⟩
      obtain ⟨b, off, rfl, hc0⟩ := hleft.out.rd.fcell hx0
      have HCL := Lib.hid (fun (j : Nat) (x : UInt64) (hx : left[j]? = some x) => hleft.out.rd.fcell hx)
      have HLS := Lib.hid (least_start hx0)
      have HLN := Lib.hid hlen
      have hmc := hleft.out.cap
      clear hlen hx0 hc0
      go_wp2_with fail
      go_loop [5, 6, 7, 15] (fun kk _ _ i => ∃ (q j : Nat) (x : UInt64), q ≤ m ∧ j < m ∧ i = .int .i64 (q : Int) ∧ kk = .int .i64 (j : Int) ∧ Hid (LeastAt left q j x)) (fun _ _ _ i => m - (intOf i).toNat)
      case atStart => exact ⟨0, 0, x0, by omega, hm0, rfl, rfl, HLS⟩
      case round =>
        clear HLS
        obtain ⟨q, j, x, hq, hj, rfl, rfl, hls⟩ := hrel
        obtain ⟨bj, oj, hAj, hcj⟩ := HCL.out j x hls.out.1
        injection hAj with hAj
        injection hAj with hbj hoj _
        subst hbj hoj
        by_cases hqm : q < m
        · obtain ⟨y, hy⟩ : ∃ y, left[q]? = some y := ⟨_, List.getElem?_eq_getElem (by rw [HLN.out]; exact hqm)⟩
          obtain ⟨bq, oq, hAq, hcq⟩ := HCL.out q y hy
          injection hAq with hAq
          injection hAq with hbq hoq _
          subst hbq hoq
          have HT := Lib.hid (rTimeOrder_any y x)
          unfold fv at HT
          by_cases hcmp : keyN y < keyN x
          · have hp : (cfT y x < 0) = True := by simp [cf_neg, hcmp]
            have HU := Lib.hid (least_down hls.out hy hcmp)
            clear hy hcmp hls
            go_wp2_with fail
            refine (HT.out _).mono ?_
            rintro e w' ⟨rfl, rfl⟩
            go_wp2_with fail
            go_round
            case rel => exact ⟨q + 1, q, y, by omega, by omega, by go_num, rfl, HU⟩
            case measure => simp [intOf]; omega
          · have hp : (cfT y x < 0) = False := by simp [cf_neg]; omega
            have HU := Lib.hid (least_keep hls.out hy hcmp)
            clear hy hcmp hls
            go_wp2_with fail
            refine (HT.out _).mono ?_
            rintro e w' ⟨rfl, rfl⟩
            go_wp2_with fail
            go_round
            case rel => exact ⟨q + 1, j, x, by omega, by omega, by go_num, rfl, HU⟩
            case measure => simp [intOf]; omega
        · obtain rfl : q = m := by omega
          have HSEL := Lib.hid (sel_step hsel.out hls.out.1 (least_all (by rw [HLN.out]; exact hls.out)))
          have hszr := hbw.out.size
          have HJX := Lib.hid hls.out.1
          clear hls
          go_wp2_with (at_builtin; refine wpList_pushAt elF64 wr _ _ w.heap.size A3 k c3 (out.map fv) (fv x) hown.out rfl hszr (by omega) (by omega) rfl rfl rfl rfl ?_; intro A4 c4 w4 hown4 hb4 hg4 hat4)
          have HL4 := Lib.hid (hleft.out.grown hg4 hat4)
          have HO4 : Hid (w4.ownsRow w.heap.size 56 1 (.slice A4 (k + 1) c4) (k + 1) ((out ++ [x]).map fv)) := Lib.hid (by rw [List.map_append]; exact hown4)
          have HB4 := Lib.hid (hbw.out.trans hb4)
          clear hown4 hb4 hg4 hat4 hown hleft hbw hcj
          go_wp2_with fail
          have hjc : j ≤ c2 := by omega
          have hw1 : IntKind.i64.wrap ((j : Int) + 1) = (j : Int) + 1 := IntWalk.i64_in _ (by omega)
          have hj0 : (0 : Int) ≤ (j : Int) + 1 := by omega
          obtain ⟨ht, i0, hi, hz, hs1, hby, hzs⟩ := elF64
          by_cases hlast : j + 1 = q
          · subst hlast
            have HL5 : Hid (LeftAt w4.drew (some ⟨b, off, none⟩) j j (Value.slice A4 (k + 1) c4).ownBlock (left.take j ++ left.drop (j + 1))) := Lib.hid (leftAt_last HL4.out)
            clear HL4
            go_region_law (refine step_append_zero rfl (.tmp 39) (.tmp 43) 55 rfl 56 i0 ht hi ⟨b, off, none⟩ j j (by simp [Act.eval, Act.put]) (Nat.le_refl _) (if c2 = j + 1 then some ⟨b, off, none⟩ else some ⟨b, off + (j + 1), none⟩) (c2 - (j + 1)) (by simp [Act.eval, Act.put]) ?_)
            clear ht hi hz hs1 hby hzs hw1 hjc hj0
            go_wp2_with fail
            all_goals
              go_roundw
              case rel => exact ⟨j, k + 1, _, A4, j, c4, out ++ [x], _, by omega, rfl, rfl, HSEL, Lib.hid (by rw [List.length_append, hol.out]; rfl), HO4, HL5, Lib.hid (below_drew' HB4.out)⟩
              case measure => simp [sliceLenF]
          · have hjq : (j : Int) + 1 ≤ (q : Int) := by omega
            have hjq' : 0 < q - (j + 1) := by omega
            have hcf : (c2 = j + 1) = False := by simp; omega
            have hold := leftAt_head HL4.out (show j ≤ q by omega)
            have hnew := leftAt_tail HL4.out (show j + 1 ≤ q by omega)
            have hl1 : ((left.take j).map fv).length = j * 1 := by rw [List.length_map, List.length_take, HLN.out]; omega
            have hl2 : ((left.drop (j + 1)).map fv).length = (q - (j + 1)) * 1 := by rw [List.length_map, List.length_drop, HLN.out]; omega
            have hone : ∀ u ∈ (left.drop (j + 1)).map fv, u.oneCell' = true := fv_one _
            have hqn : q ≤ n := by omega
            have HLT : Hid (j + (q - (j + 1)) = q - 1) := Lib.hid (by omega)
            clear hlast
            have H1 := Lib.hid hold
            have H2 := Lib.hid hnew
            have H3 := Lib.hid hl1
            have H4 := Lib.hid hl2
            have H5 := Lib.hid hone
            clear hold hnew hl1 hl2 hone
            go_region_law (refine step_append_grows rfl (.tmp 39) (.tmp 43) 55 rfl 56 i0 (.float .f64 0) 1 8 ht hi hz hs1 hby hzs (by decide) (some ⟨b, off, none⟩) j j ((left.take j).map fv) (by simp [Act.eval, Act.put]) (by intro h; cases h) H3.out H1.out ⟨b, off + (j + 1), none⟩ (q - (j + 1)) (c2 - (j + 1)) ((left.drop (j + 1)).map fv) (by simp [Act.eval, Act.put]) H4.out H2.out H5.out (by omega) (by unfold maxLen; omega) (by omega) ?_; intro v' w6 hown6 hg6; obtain ⟨A6, c6, rfl⟩ := own_form hown6)
            go_simp
            clear ht hi hz hs1 hby hzs hw1 hjc hj0 hcf
            have HB6 : Hid (Below w4.heap.size w4 w6) := Lib.hid ((below_drew' (Below.refl w4.heap.size w4)).grown hg6 (Nat.le_refl _) (fun k h => by cases h))
            have HL6 : Hid (LeftAt w6 A6 (j + (q - (j + 1))) c6 (Value.slice A4 (k + 1) c4).ownBlock (left.take j ++ left.drop (j + 1))) := Lib.hid (by
              refine LeftAt.of_own (B := w4.heap.size) (E := 56) (by rw [List.map_append]; exact hown6) (by rw [List.length_append, List.length_take, List.length_drop, HLN.out]; omega) (fun b' hb' => (HO4.out.lt b' hb').2))
            have HO6 := Lib.hid (own_below HO4.out HB6.out)
            have HBE := Lib.hid (HB4.out.trans (HB6.out.mono (show w.heap.size ≤ w4.heap.size from HB4.out.size)))
            clear hown6 hg6
            obtain ⟨m6, hm6⟩ : ∃ m6, m6 = j + (q - (j + 1)) := ⟨_, rfl⟩
            rw [← hm6] at HL6 ⊢
            have hm7 : m6 + (k + 1) = n := by omega
            have HM7 := Lib.hid hm7
            have hm8 : m6 < q := by omega
            clear hm6 hm7 hmk HLT
            go_wp2_with fail
            go_roundw
            case rel => exact ⟨m6, k + 1, A6, A4, c6, c4, out ++ [x], _, HM7.out, rfl, rfl, HSEL, Lib.hid (by rw [List.length_append, hol.out]; rfl), HO6, HL6, HBE⟩
            case measure => simp [sliceLenF]; omega
    · obtain rfl : m = 0 := by omega
      obtain rfl : k = n := by omega
      have hl0 : left = [] := List.eq_nil_of_length_eq_zero hleft.out.len
      have HE : Hid (out = tsort l) := Lib.hid (sel_end (by rw [← hl0]; exact hsel.out))
      have HO : Hid (wr.ownsRow w.heap.size 56 1 (.slice A3 k c3) k ((tsort l).map fv)) := Lib.hid (by rw [← HE.out]; exact hown.out)
      clear hsel hol hown hleft hl0
      go_wp2_with fail
      go_ret
      exact ⟨A3, c3, rfl, HO.out, hbw.out⟩
end Go.Proofs.YtonmkmghpiagjaaDoor
