/- Contracts of the reference: SameAsk at one ask twice, alike. -/
import Derived.Test.YtcodncddaemhlaaDoorNorm5
import Derived.Test.YtcodncddaemhlaaDoorNorm3
import Derived.Test.YtcodncddaemhlaaDoorNorm7
import Derived.Maps.OwnOps
import Derived.BigQuiet
import Derived.Deep.QuietTactic
namespace Go.Proofs.YtcodncddaemhlaaDoor
open Go.RowKit

/-- What SameAsk answers at one ask that lies in two places. -/
def TruePost (w : World) (e : Ending) (w' : World) : Prop := e = .returned (.bool true) ∧ Below w.heap.size w w'
theorem ne_self_i (a : Int) : (a != a) = false := by simp
theorem ne_self_s (b : ByteArray) : (b.toList != b.toList) = false := by simp
set_option maxRecDepth 100000 in
set_option maxHeartbeats 4000000 in
theorem rSame_any : ∀ (x : AskT) (A A2 : Option Addr) (c c2 : Nat) (w : World), AskAt w x A c → AskAt w x A2 c2 → sizeA x ≤ 1152921504606846976 → Calls Tryd.prog 8 #[askV x A c, askV x A2 c2] w (TruePost w) := by
  refine askT_ind fun k s n X ih A A2 c c2 w hA hA2 hs => ?_
  have HIH := Lib.hid ih
  have HA := Lib.hid hA
  have HA2 := Lib.hid hA2
  have HSZ := Lib.hid (sizeA_mk k s n X)
  rw [HSZ.out] at hs
  have HS := Lib.hid hs
  have hm' : X.length ≤ 9223372036854775807 := by have := kids_le X; omega
  obtain ⟨y, hy⟩ := boxA_new w (.int .i64 k) (.string ⟨s.toArray⟩) (.int .i64 n) (.slice A X.length c) 24
  obtain ⟨r, hr⟩ := boxA_new (w.alloc (.cells #[.int .i64 k, .string ⟨s.toArray⟩, .int .i64 n, .slice A X.length c] 24)) (.int .i64 k) (.string ⟨s.toArray⟩) (.int .i64 n) (.slice A2 X.length c2) 24
  have y' := y.below hr
  rw [show (w.alloc (.cells #[.int .i64 k, .string ⟨s.toArray⟩, .int .i64 n, .slice A X.length c] 24)).heap.size = w.heap.size + 1 by simp] at r
  have Y := Lib.hid y'
  have R := Lib.hid r
  have HY := Lib.hid (below_newA hy hr)
  clear ih hA hA2 hs y hy r hr y'
  unfold askV
  simp only [AskT.kind, AskT.name, AskT.n, AskT.X]
  generalize hbs : (⟨s.toArray⟩ : ByteArray) = bs at *
  clear hbs
  have n1 : (k != k) = false := ne_self_i k
  have n2 : (bs.toList != bs.toList) = false := ne_self_s bs
  have n3 : (n != n) = false := ne_self_i n
  have n4 : (((X.length : Nat) : Int) != ((X.length : Nat) : Int)) = false := ne_self_i _
  go_enter Tryd.func8, Tryd.ntmps8
  go_upto_region 1 with fail
  generalize (w.alloc (.cells #[.int .i64 k, .string bs, .int .i64 n, .slice A X.length c] 24)).alloc (.cells #[.int .i64 k, .string bs, .int .i64 n, .slice A2 X.length c2] 24) = w0 at *
  obtain ⟨BX, hBX⟩ : ∃ BX, BX = w.heap.size := ⟨_, rfl⟩
  have HBXE := Lib.hid hBX
  rw [← hBX] at Y R ⊢
  clear hBX
  obtain ⟨y1, y2, y3, y4⟩ := Y.out
  obtain ⟨r1, r2, r3, r4⟩ := R.out
  go_wp2_with fail
  go_loopw [5, 37] (fun _ i wr => ∃ j : Nat, i = .int .i64 (j : Int) ∧ j ≤ X.length ∧ Hid (Below w0.heap.size w0 wr)) (fun _ i _ => X.length - (intOf i).toNat)
  case atStart => exact ⟨0, rfl, by omega, Lib.hid (Below.refl _ _)⟩
  case round =>
    obtain ⟨j, rfl, hj, HB⟩ := hrel
    have YW := Lib.hid (Y.out.below HB.out)
    have RW := Lib.hid (R.out.below HB.out)
    have HBW := Lib.hid (below_newA HY.out HB.out)
    by_cases hlt : j < X.length
    · obtain ⟨x, hx⟩ : ∃ x, X[j]? = some x := ⟨_, List.getElem?_eq_getElem hlt⟩
      obtain ⟨b, off, A', c', rfl, e1, e2, e3, e4, hch⟩ := AskAt.child (AskAt.keep HBW.out _ _ _ HA.out) hx
      obtain ⟨b2, off2, A2', c2', rfl, g1, g2, g3, g4, hch2⟩ := AskAt.child (AskAt.keep HBW.out _ _ _ HA2.out) hx
      have HXS : Hid (sizeA x ≤ 1152921504606846976) := Lib.hid (by
        have h1 : (X.map sizeA)[j]? = some (sizeA x) := by rw [List.getElem?_map, hx]; rfl
        have h2 := sum_take_succ h1
        have h3 := sum_take_le (X.map sizeA) (j + 1)
        have := HS.out
        omega)
      have HC := Lib.hid (fun W (hW : Below wr.heap.size wr W) => HIH.out x (List.mem_of_getElem? hx) A' A2' c' c2' W (AskAt.keep hW _ _ _ hch) (AskAt.keep hW _ _ _ hch2) HXS.out)
      have HSL := Lib.hid (fun W (hW : Below wr.heap.size wr W) => (⟨(YW.out.below hW).c4, (RW.out.below hW).c4, cell_keptA e1 hW, cell_keptA e2 hW, cell_keptA e3 hW, cell_keptA e4 hW, cell_keptA g1 hW, cell_keptA g2 hW, cell_keptA g3 hW, cell_keptA g4 hW, hW⟩ : W.cell? ⟨BX, 3, none⟩ = some (.slice (some ⟨b, off, none⟩) X.length c) ∧ W.cell? ⟨BX + 1, 3, none⟩ = some (.slice (some ⟨b2, off2, none⟩) X.length c2) ∧ W.cell? ⟨b, off + j * 4, none⟩ = some (.int .i64 x.kind) ∧ W.cell? ⟨b, off + j * 4 + 1, none⟩ = some (.string ⟨x.name.toArray⟩) ∧ W.cell? ⟨b, off + j * 4 + 2, none⟩ = some (.int .i64 x.n) ∧ W.cell? ⟨b, off + j * 4 + 3, none⟩ = some (.slice A' x.X.length c') ∧ W.cell? ⟨b2, off2 + j * 4, none⟩ = some (.int .i64 x.kind) ∧ W.cell? ⟨b2, off2 + j * 4 + 1, none⟩ = some (.string ⟨x.name.toArray⟩) ∧ W.cell? ⟨b2, off2 + j * 4 + 2, none⟩ = some (.int .i64 x.n) ∧ W.cell? ⟨b2, off2 + j * 4 + 3, none⟩ = some (.slice A2' x.X.length c2') ∧ Below wr.heap.size wr W))
      unfold askV TruePost at HC
      clear hx hch hch2 y1 y2 y3 y4 r1 r2 r3 r4 HIH HA HA2 HSZ HS HXS
      generalize (⟨x.name.toArray⟩ : ByteArray) = bx at *
      generalize x.kind = xk at *
      generalize x.n = xn at *
      generalize x.X.length = xm at *
      generalize hm : X.length = m at *
      have HMM := Lib.hid hm
      clear hm
      obtain ⟨y1, y2, y3, y4⟩ := YW.out
      obtain ⟨r1, r2, r3, r4⟩ := RW.out
      have k0 : (0 : Int) ≤ (j : Int) := by omega
      have k1 : (j : Int) < (m : Int) := by omega
      have b0 := Below.refl wr.heap.size wr
      have bd : Below wr.heap.size wr wr.drew := Below.drew b0
      go_upto_region 6 with fail
      go_cut [51] (fun s51 wx => s51 = .bool false ∧ Below wr.heap.size wr wx)
      case first =>
        go_region_held3 (fun W => W.cell? ⟨BX, 3, none⟩ = some (.slice (some ⟨b, off, none⟩) m c) ∧ W.cell? ⟨BX + 1, 3, none⟩ = some (.slice (some ⟨b2, off2, none⟩) m c2) ∧ W.cell? ⟨b, off + j * 4, none⟩ = some (.int .i64 xk) ∧ W.cell? ⟨b, off + j * 4 + 1, none⟩ = some (.string bx) ∧ W.cell? ⟨b, off + j * 4 + 2, none⟩ = some (.int .i64 xn) ∧ W.cell? ⟨b, off + j * 4 + 3, none⟩ = some (.slice A' xm c') ∧ W.cell? ⟨b2, off2 + j * 4, none⟩ = some (.int .i64 xk) ∧ W.cell? ⟨b2, off2 + j * 4 + 1, none⟩ = some (.string bx) ∧ W.cell? ⟨b2, off2 + j * 4 + 2, none⟩ = some (.int .i64 xn) ∧ W.cell? ⟨b2, off2 + j * 4 + 3, none⟩ = some (.slice A2' xm c2') ∧ Below wr.heap.size wr W)
          ((refine HSL.out _ ?_; first | assumption | exact Below.drew (by assumption)))
          ((go_at_call 8; (with_reducible refine (HC.out _ (by first | assumption | exact Below.drew (by assumption))).mono ?_); rintro e u7 ⟨rfl, h7⟩; have b7 := below_then (by first | assumption | exact Below.drew (by assumption)) h7))
        all_goals
          go_wp2_with fail
          go_meet
          exact ⟨rfl, by first | assumption | exact Below.drew (by assumption)⟩
      case rest =>
        obtain ⟨rfl, hb2⟩ := hcut
        have HB2 := Lib.hid (below_newA HB.out hb2)
        clear hb2 HSL HC y1 y2 y3 y4 r1 r2 r3 r4 b0 bd
        generalize hw2 : wc = w2 at *
        clear hw2
        go_wp2_with fail
        exact ⟨⟨j + 1, rfl, by omega, HB2⟩, measA hlt⟩
    · obtain rfl : j = X.length := by omega
      go_wp2_with fail
      go_ret
      exact ⟨rfl, HBW.out⟩
def BoolPost (b : Bool) (w : World) (e : Ending) (w' : World) : Prop := e = .returned (.bool b) ∧ Below w.heap.size w w'
set_option maxRecDepth 100000 in
set_option maxHeartbeats 4000000 in
theorem rAlike_any (x : AskT) (A : Option Addr) (c : Nat) (z : AskT) (A2 : Option Addr) (c2 : Nat) (w : World) (hA : AskAt w x A c) (hA2 : AskAt w z A2 c2) (hok : okA x) (hok2 : okA z) (hs : sizeA x ≤ 60) (hs2 : sizeA z ≤ 60) : Calls Tryd.prog 29 #[askV x A c, askV z A2 c2] w (BoolPost (decide (textA x = textA z)) w) := by
  obtain ⟨y, hy⟩ := boxA_new w (.int .i64 x.kind) (.string ⟨x.name.toArray⟩) (.int .i64 x.n) (.slice A x.X.length c) 24
  obtain ⟨r, hr⟩ := boxA_new (w.alloc (.cells #[.int .i64 x.kind, .string ⟨x.name.toArray⟩, .int .i64 x.n, .slice A x.X.length c] 24)) (.int .i64 z.kind) (.string ⟨z.name.toArray⟩) (.int .i64 z.n) (.slice A2 z.X.length c2) 24
  have y' := y.below hr
  rw [show (w.alloc (.cells #[.int .i64 x.kind, .string ⟨x.name.toArray⟩, .int .i64 x.n, .slice A x.X.length c] 24)).heap.size = w.heap.size + 1 by simp] at r
  have Y := Lib.hid y'
  have R := Lib.hid r
  have HY := Lib.hid (below_newA hy hr)
  have CTA := Lib.hid (fun W (hb2 : Below w.heap.size w W) => rText_any x A c W (AskAt.keep hb2 _ _ _ hA) hok hs)
  have CTB := Lib.hid (fun W (hb2 : Below w.heap.size w W) => rText_any z A2 c2 W (AskAt.keep hb2 _ _ _ hA2) hok2 hs2)
  unfold askV StrPost at CTA CTB
  clear hA hA2 hok hok2 hs hs2 y hy r hr y'
  have HEQ : Hid (((⟨(textA x).toArray⟩ : ByteArray).toList == (⟨(textA z).toArray⟩ : ByteArray).toList) = decide (textA x = textA z)) := Lib.hid (eq_sv _ _)
  unfold BoolPost
  generalize decide (textA x = textA z) = tt at *
  generalize (⟨(textA x).toArray⟩ : ByteArray) = ta at *
  generalize (⟨(textA z).toArray⟩ : ByteArray) = tb at *
  unfold askV
  generalize (⟨x.name.toArray⟩ : ByteArray) = bx at *
  generalize (⟨z.name.toArray⟩ : ByteArray) = bz at *
  generalize x.kind = ka at *
  generalize x.n = na at *
  generalize x.X.length = la at *
  generalize z.kind = kb at *
  generalize z.n = nb at *
  generalize z.X.length = lb at *
  go_enter Tryd.func29, Tryd.ntmps29
  go_upto_region 1 with fail
  generalize (w.alloc (.cells #[.int .i64 ka, .string bx, .int .i64 na, .slice A la c] 24)).alloc (.cells #[.int .i64 kb, .string bz, .int .i64 nb, .slice A2 lb c2] 24) = w1 at *
  obtain ⟨BX, hBX⟩ : ∃ BX, BX = w.heap.size := ⟨_, rfl⟩
  have HBXE := Lib.hid hBX
  rw [← hBX] at Y R ⊢
  clear hBX
  have CTA1 := Lib.hid (fun W (hb2 : Below w1.heap.size w1 W) => CTA.out W (below_newA HY.out hb2))
  have CTB1 := Lib.hid (fun W (hb2 : Below w1.heap.size w1 W) => CTB.out W (below_newA HY.out hb2))
  have HSL := Lib.hid (fun W (hW : Below w1.heap.size w1 W) => (⟨(Y.out.below hW).c1, (Y.out.below hW).c2, (Y.out.below hW).c3, (Y.out.below hW).c4, (R.out.below hW).c1, (R.out.below hW).c2, (R.out.below hW).c3, (R.out.below hW).c4, hW⟩ : W.cell? ⟨BX, 0, none⟩ = some (.int .i64 ka) ∧ W.cell? ⟨BX, 1, none⟩ = some (.string bx) ∧ W.cell? ⟨BX, 2, none⟩ = some (.int .i64 na) ∧ W.cell? ⟨BX, 3, none⟩ = some (.slice A la c) ∧ W.cell? ⟨BX + 1, 0, none⟩ = some (.int .i64 kb) ∧ W.cell? ⟨BX + 1, 1, none⟩ = some (.string bz) ∧ W.cell? ⟨BX + 1, 2, none⟩ = some (.int .i64 nb) ∧ W.cell? ⟨BX + 1, 3, none⟩ = some (.slice A2 lb c2) ∧ Below w1.heap.size w1 W))
  obtain ⟨y1, y2, y3, y4⟩ := Y.out
  obtain ⟨r1, r2, r3, r4⟩ := R.out
  have b0 := Below.refl w1.heap.size w1
  have bd : Below w1.heap.size w1 w1.drew := Below.drew b0
  go_cut [4] (fun s4 wx => s4 = .bool tt ∧ Below w1.heap.size w1 wx)
  case first =>
    go_region_held3 (fun W => W.cell? ⟨BX, 0, none⟩ = some (.int .i64 ka) ∧ W.cell? ⟨BX, 1, none⟩ = some (.string bx) ∧ W.cell? ⟨BX, 2, none⟩ = some (.int .i64 na) ∧ W.cell? ⟨BX, 3, none⟩ = some (.slice A la c) ∧ W.cell? ⟨BX + 1, 0, none⟩ = some (.int .i64 kb) ∧ W.cell? ⟨BX + 1, 1, none⟩ = some (.string bz) ∧ W.cell? ⟨BX + 1, 2, none⟩ = some (.int .i64 nb) ∧ W.cell? ⟨BX + 1, 3, none⟩ = some (.slice A2 lb c2) ∧ Below w1.heap.size w1 W)
      ((refine HSL.out _ ?_; first | assumption | exact Below.drew (by assumption)))
      ((first
        | (go_at_call 30; (with_reducible refine (CTA1.out _ (by first | assumption | exact Below.drew (by assumption))).mono ?_); rintro e u7 ⟨rfl, h7⟩; have b7 := below_then (by first | assumption | exact Below.drew (by assumption)) h7)
        | (go_at_call 30; (with_reducible refine (CTB1.out _ (by first | assumption | exact Below.drew (by assumption))).mono ?_); rintro e u8 ⟨rfl, h8⟩; have b8 := below_then (by first | assumption | exact Below.drew (by assumption)) h8)))
    all_goals
      go_wp2_with fail
      go_meet
      exact ⟨congrArg Value.bool HEQ.out, by first | assumption | exact Below.drew (by assumption)⟩
  case rest =>
    obtain ⟨rfl, hb2⟩ := hcut
    have HB2 := Lib.hid (below_newA HY.out hb2)
    clear hb2 y1 y2 y3 y4 r1 r2 r3 r4 b0 bd
    generalize hw2 : wc = w2 at *
    clear hw2
    go_wp2_with fail
    go_ret
    exact ⟨rfl, HB2.out⟩
end Go.Proofs.YtcodncddaemhlaaDoor
/- Contract of the reference: the map in ruled. -/
namespace Go.Proofs.YtcodncddaemhlaaDoor
open Go.RowKit Go.Maps

theorem intLaw : Keyed Tryd.prog 3 := int_keyed Tryd.underlying3
theorem zeroInt (w : World) : (zeroValue 3).run Tryd.prog w = .ok (.int .i64 0) w := by kernel_rfl
/-- What the reference's map of whole kinds answers. -/
def wholeM (k : Int) : Int := if k = 8 ∨ k = 10 then 8 else if k = 9 ∨ k = 11 then 9 else 0
theorem kinds15 {P : Int → Prop} (k : Int) (h : 1 ≤ k ∧ k ≤ 15) (hp : ∀ i : Fin 15, P ((i.val : Int) + 1)) : P k := by
  have := hp ⟨(k - 1).toNat, by omega⟩
  have e : (((⟨(k - 1).toNat, by omega⟩ : Fin 15).val : Nat) : Int) + 1 = k := by show (((k - 1).toNat : Nat) : Int) + 1 = k; omega
  rw [e] at this
  exact this
def wholeD : DataW Unit := ((((DataW.map []).put (.int .i64 8) (.lit (.int .i64 8))).put (.int .i64 9) (.lit (.int .i64 9))).put (.int .i64 10) (.lit (.int .i64 8))).put (.int .i64 11) (.lit (.int .i64 9))
theorem wholeD_at (k : Int) (h : 1 ≤ k ∧ k ≤ 15) : wholeD.atKey (.int .i64 k) (.lit (.int .i64 0)) = .lit (.int .i64 (wholeM k)) := by
  refine kinds15 (P := fun k => wholeD.atKey (.int .i64 k) (.lit (.int .i64 0)) = .lit (.int .i64 (wholeM k))) k h ?_
  intro i
  match i with
  | ⟨0, _⟩ | ⟨1, _⟩ | ⟨2, _⟩ | ⟨3, _⟩ | ⟨4, _⟩ | ⟨5, _⟩ | ⟨6, _⟩ | ⟨7, _⟩ | ⟨8, _⟩ | ⟨9, _⟩ | ⟨10, _⟩ | ⟨11, _⟩ | ⟨12, _⟩ | ⟨13, _⟩ | ⟨14, _⟩ => show wholeD.atKey _ _ = _; kernel_rfl
/-- The map that ruled makes, and what it answers. -/
theorem whole_map (w0 : World) : ∃ w1 w2 w3 w4,
    (Instr.mapUpdate 50 (.map (some w0.heap.size)) (.int .i64 8) (.int .i64 8)).run Tryd.prog (w0.alloc (.map #[] 0)) = .ok () w1 ∧
    (Instr.mapUpdate 50 (.map (some w0.heap.size)) (.int .i64 9) (.int .i64 9)).run Tryd.prog w1 = .ok () w2 ∧
    (Instr.mapUpdate 50 (.map (some w0.heap.size)) (.int .i64 10) (.int .i64 8)).run Tryd.prog w2 = .ok () w3 ∧
    (Instr.mapUpdate 50 (.map (some w0.heap.size)) (.int .i64 11) (.int .i64 9)).run Tryd.prog w3 = .ok () w4 ∧
    Below w0.heap.size w0 w4 ∧ ∀ k : Int, 1 ≤ k ∧ k ≤ 15 → (Instr.lookup 50 (.map (some w0.heap.size)) (.int .i64 k) false).run Tryd.prog w4 = .ok (.int .i64 (wholeM k)) w4 := by
  have hmade := World.ownsMap_made (H := Unit) w0 Tryd.prog 3 (plainElem Tryd.prog 3)
  have b0 : Below w0.heap.size w0 (w0.alloc (.map #[] 0)) := below_new (Below.refl _ _) _
  obtain ⟨w1, r1, o1, g1⟩ := hmade.update (t := 50) intLaw Tryd.underlying50 (by unfold maxLen; omega) (key := .int .i64 8) (val := .int .i64 8) (keyOf_int_mk Tryd.underlying3 rfl) (plainElem_int Tryd.underlying3 rfl)
  have b1 := b0.grown g1 b0.size (fun j hj => by cases hj; exact Nat.le_refl _)
  obtain ⟨w2, r2, o2, g2⟩ := o1.update (t := 50) intLaw Tryd.underlying50 (by unfold maxLen; omega) (key := .int .i64 9) (val := .int .i64 9) (keyOf_int_mk Tryd.underlying3 rfl) (plainElem_int Tryd.underlying3 rfl)
  have b2 := b1.grown g2 b1.size (fun j hj => by cases hj; exact Nat.le_refl _)
  obtain ⟨w3, r3, o3, g3⟩ := o2.update (t := 50) intLaw Tryd.underlying50 (by unfold maxLen; omega) (key := .int .i64 10) (val := .int .i64 8) (keyOf_int_mk Tryd.underlying3 rfl) (plainElem_int Tryd.underlying3 rfl)
  have b3 := b2.grown g3 b2.size (fun j hj => by cases hj; exact Nat.le_refl _)
  obtain ⟨w4, r4, o4, g4⟩ := o3.update (t := 50) intLaw Tryd.underlying50 (by unfold maxLen; omega) (key := .int .i64 11) (val := .int .i64 9) (keyOf_int_mk Tryd.underlying3 rfl) (plainElem_int Tryd.underlying3 rfl)
  have b4 := b3.grown g4 b3.size (fun j hj => by cases hj; exact Nat.le_refl _)
  refine ⟨w1, w2, w3, w4, r1, r2, r3, r4, b4, fun k hk => ?_⟩
  have hw : (Lit.int .i64 k).wf = true := WalkArith.wf_i64 (by omega)
  obtain ⟨c, hrun, hat, _⟩ := o4.lookup_int intLaw Tryd.underlying50 Tryd.underlying3 (zeroInt _) (keyOf_int_mk Tryd.underlying3 hw)
  have h2 := wholeD_at k hk
  have h3 : DataW.lit (H := Unit) (.int .i64 c) = .lit (.int .i64 (wholeM k)) := hat.symm.trans h2
  have h4 := (Lit.int.inj (DataW.lit.inj h3)).2
  rw [hrun, h4]
end Go.Proofs.YtcodncddaemhlaaDoor
/- Frames of the reference's ruled: ten slots, the rest told by one function; its regions by number. -/
namespace Go.Proofs.YtcodncddaemhlaaDoor
open Go.RowKit

set_option maxRecDepth 100000 in
/-- The frame of ruled: ten slots, the rest by a function. -/
def frL (v0 v1 v2 v3 v4 v5 v6 v7 v8 v9 : Value) (u : Nat → Value) : List Value := v0 :: v1 :: v2 :: v3 :: v4 :: v5 :: v6 :: v7 :: v8 :: v9 :: u 10 :: u 11 :: u 12 :: u 13 :: u 14 :: u 15 :: u 16 :: u 17 :: u 18 :: u 19 :: u 20 :: u 21 :: u 22 :: u 23 :: u 24 :: u 25 :: u 26 :: u 27 :: u 28 :: u 29 :: u 30 :: u 31 :: u 32 :: u 33 :: u 34 :: u 35 :: u 36 :: u 37 :: u 38 :: u 39 :: u 40 :: u 41 :: u 42 :: u 43 :: u 44 :: u 45 :: u 46 :: u 47 :: u 48 :: u 49 :: u 50 :: u 51 :: u 52 :: u 53 :: u 54 :: u 55 :: u 56 :: u 57 :: u 58 :: u 59 :: u 60 :: u 61 :: u 62 :: u 63 :: u 64 :: u 65 :: u 66 :: u 67 :: u 68 :: u 69 :: u 70 :: u 71 :: u 72 :: u 73 :: u 74 :: u 75 :: u 76 :: u 77 :: u 78 :: u 79 :: u 80 :: u 81 :: u 82 :: u 83 :: u 84 :: u 85 :: u 86 :: u 87 :: u 88 :: u 89 :: u 90 :: u 91 :: u 92 :: u 93 :: u 94 :: u 95 :: u 96 :: u 97 :: u 98 :: u 99 :: u 100 :: u 101 :: u 102 :: u 103 :: u 104 :: u 105 :: u 106 :: u 107 :: u 108 :: u 109 :: u 110 :: u 111 :: u 112 :: u 113 :: u 114 :: u 115 :: u 116 :: u 117 :: u 118 :: u 119 :: u 120 :: u 121 :: u 122 :: u 123 :: u 124 :: u 125 :: u 126 :: u 127 :: u 128 :: u 129 :: u 130 :: u 131 :: u 132 :: u 133 :: u 134 :: u 135 :: u 136 :: u 137 :: u 138 :: u 139 :: u 140 :: u 141 :: u 142 :: u 143 :: u 144 :: u 145 :: u 146 :: u 147 :: u 148 :: u 149 :: u 150 :: u 151 :: u 152 :: u 153 :: u 154 :: u 155 :: u 156 :: u 157 :: u 158 :: u 159 :: u 160 :: u 161 :: u 162 :: u 163 :: u 164 :: u 165 :: u 166 :: u 167 :: u 168 :: u 169 :: u 170 :: u 171 :: u 172 :: u 173 :: u 174 :: u 175 :: u 176 :: u 177 :: u 178 :: u 179 :: u 180 :: u 181 :: u 182 :: u 183 :: u 184 :: u 185 :: u 186 :: u 187 :: u 188 :: u 189 :: u 190 :: u 191 :: u 192 :: u 193 :: u 194 :: u 195 :: u 196 :: u 197 :: u 198 :: u 199 :: u 200 :: u 201 :: u 202 :: u 203 :: u 204 :: u 205 :: u 206 :: u 207 :: u 208 :: u 209 :: u 210 :: u 211 :: u 212 :: u 213 :: u 214 :: u 215 :: u 216 :: u 217 :: u 218 :: u 219 :: u 220 :: u 221 :: u 222 :: u 223 :: u 224 :: u 225 :: u 226 :: u 227 :: u 228 :: u 229 :: u 230 :: u 231 :: u 232 :: u 233 :: u 234 :: u 235 :: u 236 :: u 237 :: u 238 :: u 239 :: u 240 :: u 241 :: u 242 :: u 243 :: u 244 :: u 245 :: u 246 :: u 247 :: u 248 :: u 249 :: u 250 :: u 251 :: u 252 :: u 253 :: u 254 :: u 255 :: u 256 :: u 257 :: u 258 :: u 259 :: u 260 :: u 261 :: u 262 :: u 263 :: u 264 :: u 265 :: u 266 :: u 267 :: u 268 :: u 269 :: u 270 :: u 271 :: u 272 :: u 273 :: u 274 :: u 275 :: u 276 :: u 277 :: u 278 :: u 279 :: u 280 :: u 281 :: u 282 :: u 283 :: u 284 :: u 285 :: u 286 :: u 287 :: u 288 :: u 289 :: u 290 :: u 291 :: u 292 :: u 293 :: u 294 :: u 295 :: u 296 :: u 297 :: u 298 :: u 299 :: u 300 :: u 301 :: u 302 :: u 303 :: u 304 :: u 305 :: u 306 :: u 307 :: u 308 :: u 309 :: u 310 :: u 311 :: u 312 :: u 313 :: u 314 :: u 315 :: u 316 :: u 317 :: u 318 :: u 319 :: u 320 :: u 321 :: u 322 :: u 323 :: u 324 :: u 325 :: u 326 :: u 327 :: u 328 :: u 329 :: u 330 :: u 331 :: u 332 :: u 333 :: u 334 :: u 335 :: u 336 :: u 337 :: u 338 :: u 339 :: u 340 :: u 341 :: u 342 :: u 343 :: u 344 :: u 345 :: u 346 :: u 347 :: u 348 :: u 349 :: u 350 :: u 351 :: u 352 :: u 353 :: u 354 :: u 355 :: u 356 :: u 357 :: u 358 :: u 359 :: u 360 :: u 361 :: u 362 :: u 363 :: u 364 :: u 365 :: u 366 :: u 367 :: u 368 :: u 369 :: u 370 :: u 371 :: u 372 :: u 373 :: u 374 :: u 375 :: u 376 :: u 377 :: u 378 :: u 379 :: u 380 :: u 381 :: u 382 :: u 383 :: []
theorem list_fn (d : Value) : ∀ (L : List Value) (k : Nat), ∃ u : Nat → Value, L = (List.range' k L.length).map u := by
  intro L
  induction L with
  | nil => exact fun k => ⟨fun _ => d, rfl⟩
  | cons a L ih =>
    intro k
    obtain ⟨u, hu⟩ := ih (k + 1)
    refine ⟨fun i => if i = k then a else u i, ?_⟩
    rw [List.length_cons, List.range'_succ, List.map_cons, if_pos rfl]
    congr 1
    rw [hu, List.length_map, List.length_range']
    refine List.map_congr_left fun i hi => ?_
    rw [List.mem_range'_1] at hi
    rw [if_neg (by omega)]
set_option maxRecDepth 100000 in
theorem frL_tail (u : Nat → Value) : (List.range' 10 374).map u = u 10 :: u 11 :: u 12 :: u 13 :: u 14 :: u 15 :: u 16 :: u 17 :: u 18 :: u 19 :: u 20 :: u 21 :: u 22 :: u 23 :: u 24 :: u 25 :: u 26 :: u 27 :: u 28 :: u 29 :: u 30 :: u 31 :: u 32 :: u 33 :: u 34 :: u 35 :: u 36 :: u 37 :: u 38 :: u 39 :: u 40 :: u 41 :: u 42 :: u 43 :: u 44 :: u 45 :: u 46 :: u 47 :: u 48 :: u 49 :: u 50 :: u 51 :: u 52 :: u 53 :: u 54 :: u 55 :: u 56 :: u 57 :: u 58 :: u 59 :: u 60 :: u 61 :: u 62 :: u 63 :: u 64 :: u 65 :: u 66 :: u 67 :: u 68 :: u 69 :: u 70 :: u 71 :: u 72 :: u 73 :: u 74 :: u 75 :: u 76 :: u 77 :: u 78 :: u 79 :: u 80 :: u 81 :: u 82 :: u 83 :: u 84 :: u 85 :: u 86 :: u 87 :: u 88 :: u 89 :: u 90 :: u 91 :: u 92 :: u 93 :: u 94 :: u 95 :: u 96 :: u 97 :: u 98 :: u 99 :: u 100 :: u 101 :: u 102 :: u 103 :: u 104 :: u 105 :: u 106 :: u 107 :: u 108 :: u 109 :: u 110 :: u 111 :: u 112 :: u 113 :: u 114 :: u 115 :: u 116 :: u 117 :: u 118 :: u 119 :: u 120 :: u 121 :: u 122 :: u 123 :: u 124 :: u 125 :: u 126 :: u 127 :: u 128 :: u 129 :: u 130 :: u 131 :: u 132 :: u 133 :: u 134 :: u 135 :: u 136 :: u 137 :: u 138 :: u 139 :: u 140 :: u 141 :: u 142 :: u 143 :: u 144 :: u 145 :: u 146 :: u 147 :: u 148 :: u 149 :: u 150 :: u 151 :: u 152 :: u 153 :: u 154 :: u 155 :: u 156 :: u 157 :: u 158 :: u 159 :: u 160 :: u 161 :: u 162 :: u 163 :: u 164 :: u 165 :: u 166 :: u 167 :: u 168 :: u 169 :: u 170 :: u 171 :: u 172 :: u 173 :: u 174 :: u 175 :: u 176 :: u 177 :: u 178 :: u 179 :: u 180 :: u 181 :: u 182 :: u 183 :: u 184 :: u 185 :: u 186 :: u 187 :: u 188 :: u 189 :: u 190 :: u 191 :: u 192 :: u 193 :: u 194 :: u 195 :: u 196 :: u 197 :: u 198 :: u 199 :: u 200 :: u 201 :: u 202 :: u 203 :: u 204 :: u 205 :: u 206 :: u 207 :: u 208 :: u 209 :: u 210 :: u 211 :: u 212 :: u 213 :: u 214 :: u 215 :: u 216 :: u 217 :: u 218 :: u 219 :: u 220 :: u 221 :: u 222 :: u 223 :: u 224 :: u 225 :: u 226 :: u 227 :: u 228 :: u 229 :: u 230 :: u 231 :: u 232 :: u 233 :: u 234 :: u 235 :: u 236 :: u 237 :: u 238 :: u 239 :: u 240 :: u 241 :: u 242 :: u 243 :: u 244 :: u 245 :: u 246 :: u 247 :: u 248 :: u 249 :: u 250 :: u 251 :: u 252 :: u 253 :: u 254 :: u 255 :: u 256 :: u 257 :: u 258 :: u 259 :: u 260 :: u 261 :: u 262 :: u 263 :: u 264 :: u 265 :: u 266 :: u 267 :: u 268 :: u 269 :: u 270 :: u 271 :: u 272 :: u 273 :: u 274 :: u 275 :: u 276 :: u 277 :: u 278 :: u 279 :: u 280 :: u 281 :: u 282 :: u 283 :: u 284 :: u 285 :: u 286 :: u 287 :: u 288 :: u 289 :: u 290 :: u 291 :: u 292 :: u 293 :: u 294 :: u 295 :: u 296 :: u 297 :: u 298 :: u 299 :: u 300 :: u 301 :: u 302 :: u 303 :: u 304 :: u 305 :: u 306 :: u 307 :: u 308 :: u 309 :: u 310 :: u 311 :: u 312 :: u 313 :: u 314 :: u 315 :: u 316 :: u 317 :: u 318 :: u 319 :: u 320 :: u 321 :: u 322 :: u 323 :: u 324 :: u 325 :: u 326 :: u 327 :: u 328 :: u 329 :: u 330 :: u 331 :: u 332 :: u 333 :: u 334 :: u 335 :: u 336 :: u 337 :: u 338 :: u 339 :: u 340 :: u 341 :: u 342 :: u 343 :: u 344 :: u 345 :: u 346 :: u 347 :: u 348 :: u 349 :: u 350 :: u 351 :: u 352 :: u 353 :: u 354 :: u 355 :: u 356 :: u 357 :: u 358 :: u 359 :: u 360 :: u 361 :: u 362 :: u 363 :: u 364 :: u 365 :: u 366 :: u 367 :: u 368 :: u 369 :: u 370 :: u 371 :: u 372 :: u 373 :: u 374 :: u 375 :: u 376 :: u 377 :: u 378 :: u 379 :: u 380 :: u 381 :: u 382 :: u 383 :: [] := rfl
set_option maxRecDepth 100000 in
theorem frL_mk (v0 v1 v2 v3 v4 v5 v6 v7 v8 v9 : Value) (t : List Value) (ht : t.length = 374) : ∃ u, v0 :: v1 :: v2 :: v3 :: v4 :: v5 :: v6 :: v7 :: v8 :: v9 :: t = frL v0 v1 v2 v3 v4 v5 v6 v7 v8 v9 u := by
  obtain ⟨u, hu⟩ := list_fn undef t 10
  refine ⟨u, ?_⟩
  rw [ht, frL_tail u] at hu
  rw [hu]
  rfl
/-- What holds between two rounds of the loop over the rules. -/
def RInv (v0 v1 v2 v4 v5 v6 : Value) (P : Int → World → Prop) (a : Act) (w : World) : Prop :=
  ∃ (j : Int) (v8 v9 : Value) (u : Nat → Value), (1 ≤ j ∧ j ≤ 10 ∧ P j w) ∧ a = ⟨(frL v0 v1 v2 (.bool false) v4 v5 v6 (.int .i64 j) v8 v9 u).toArray, []⟩
theorem RInv.mk {v0 v1 v2 v4 v5 v6 v8 v9 : Value} {P : Int → World → Prop} {w : World} {j : Int} {t : List Value} (h : 1 ≤ j ∧ j ≤ 10 ∧ P j w) (ht : t.length = 374) : RInv v0 v1 v2 v4 v5 v6 P ⟨(v0 :: v1 :: v2 :: .bool false :: v4 :: v5 :: v6 :: .int .i64 j :: v8 :: v9 :: t).toArray, []⟩ w := by
  obtain ⟨u, hu⟩ := frL_mk v0 v1 v2 (.bool false) v4 v5 v6 (.int .i64 j) v8 v9 t ht
  exact ⟨j, v8, v9, u, h, by rw [hu]⟩
def rMeas (a : Act) (_ : World) : Nat := 10 - (intOf (a.tmps.getD 7 undef)).toNat
/-- The region of this number in a code. -/
def rg : Code → Nat → Option Code
  | .region i ops d, n => if i = n then some (.region i ops d) else none
  | .seq a b, n => (rg a n).orElse fun _ => rg b n
  | .cond _ a b, n => (rg a n).orElse fun _ => rg b n
  | .block _ a, n => rg a n
  | .loop a, n => rg a n
  | _, _ => none
noncomputable def rgR (n : Nat) : Option Code := Tryd.f18.body.bind fun b => rg b n
/-- A region's end: one slot known, the others by a function. -/
theorem fr_close {Q : Exit → Act → World → Prop} {v0 v1 v2 v3 v4 v5 v6 v7 v8 v9 : Value} {t : List Value} {w : World} (ht : t.length = 374) (i : Nat) {v : Value} (hi : t[i]? = some v) (hQ : ∀ u' : Nat → Value, u' (10 + i) = v → Q .normal ⟨(frL v0 v1 v2 v3 v4 v5 v6 v7 v8 v9 u').toArray, []⟩ w) :
    Q .normal ⟨(v0 :: v1 :: v2 :: v3 :: v4 :: v5 :: v6 :: v7 :: v8 :: v9 :: t).toArray, []⟩ w := by
  obtain ⟨u, hu⟩ := list_fn undef t 10
  have h1 : u (10 + i) = v := by
    rw [hu, List.getElem?_map] at hi
    have hlt : i < t.length := by
      rcases Nat.lt_or_ge i t.length with h | h
      · exact h
      · rw [List.getElem?_eq_none (by rw [List.length_range']; exact h)] at hi; cases hi
    rw [List.getElem?_range' hlt] at hi
    simpa using hi
  have h2 := hQ u h1
  rw [ht, frL_tail u] at hu
  rw [hu]
  exact h2
theorem fr_end {K : Act → World → Prop} {v0 v1 v2 v3 v4 v5 v6 v7 v8 v9 : Value} {t : List Value} {w : World} (ht : t.length = 374) (i : Nat) {v : Value} (hi : t[i]? = some v) (hQ : ∀ u' : Nat → Value, u' (10 + i) = v → K ⟨(frL v0 v1 v2 v3 v4 v5 v6 v7 v8 v9 u').toArray, []⟩ w) :
    K ⟨(v0 :: v1 :: v2 :: v3 :: v4 :: v5 :: v6 :: v7 :: v8 :: v9 :: t).toArray, []⟩ w := fr_close (Q := fun _ a w => K a w) ht i hi hQ
theorem fr_any {K : Act → World → Prop} {v0 v1 v2 v3 v4 v5 v6 v7 v8 v9 : Value} {t : List Value} {w : World} (ht : t.length = 374) (hQ : ∀ u' : Nat → Value, K ⟨(frL v0 v1 v2 v3 v4 v5 v6 v7 v8 v9 u').toArray, []⟩ w) :
    K ⟨(v0 :: v1 :: v2 :: v3 :: v4 :: v5 :: v6 :: v7 :: v8 :: v9 :: t).toArray, []⟩ w := by
  obtain ⟨u, hu⟩ := frL_mk v0 v1 v2 v3 v4 v5 v6 v7 v8 v9 t ht
  rw [hu]
  exact hQ u
/-- The frame in a round. -/
def FA (v0 : Value) (B : Nat) (b3 : Bool) (v4 v5 v6 : Value) (j : Int) (v8 v9 : Value) (u : Nat → Value) : Act := ⟨(frL v0 (.pointer (some ⟨B, 0, none⟩)) (.pointer (some ⟨B + 1, 0, none⟩)) (.bool b3) v4 v5 v6 (.int .i64 j) v8 v9 u).toArray, []⟩
end Go.Proofs.YtcodncddaemhlaaDoor
