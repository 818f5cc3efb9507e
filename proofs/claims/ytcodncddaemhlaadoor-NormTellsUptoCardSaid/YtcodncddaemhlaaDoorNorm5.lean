/- Contract: norm.two. Asks that are right, of at most 60 parts. -/
import Derived.Test.YtcodncddaemhlaaDoorNorm4
import Derived.Deep.DeepCutAuto
namespace Go.Proofs.YtcodncddaemhlaaDoor
open Go.RowKit

theorem cell_new {w : World} {b o : Nat} {v : Value} (h : w.cell? ⟨b, o, none⟩ = some v) (x : Obj) : (w.alloc x).cell? ⟨b, o, none⟩ = some v := cell_keptA h (below_new (Below.refl _ _) x)
def RulePost (ok : Nat → Prop) (x : AskT) (r : Option AskT) (w : World) (e : Ending) (w' : World) : Prop :=
  ∃ A c, e = .returned (.tuple #[askV (r.getD x) A c, .bool r.isSome]) ∧ AskP (fun k => ok k ∨ w.heap.size ≤ k) w' (r.getD x) A c ∧ Below w.heap.size w w'
theorem slt_of_not {a b : List UInt8} (h1 : a ≠ b) (h2 : ¬ b < a) : a < b := (slt_tri a b).elim id (fun h => h.elim (fun h => absurd h h1) (fun h => absurd h h2))
theorem rulePost_mk {ok : Nat → Prop} {x y : AskT} {r : Option AskT} {b : Bool} {w wz : World} {e : Ending} {A : Option Addr} {c : Nat} {v : Value} (hr : r.getD x = y) (hb : r.isSome = b) (hv : askV y A c = v) (he : e = .returned (.tuple #[v, .bool b])) (hA : AskP (fun k => ok k ∨ w.heap.size ≤ k) wz y A c) (hB : Below w.heap.size w wz) : RulePost ok x r w e wz := by
  subst hr hb hv he
  exact ⟨A, c, rfl, hA, hB⟩
theorem blk_put4 {w : World} {b : Nat} {t : TypeId} {x1 x2 x3 x4 : Value} (h : Blk w b t [x1, x2, x3, x4]) (v1 v2 v3 v4 : Value) :
    Blk ((((w.setCell ⟨b, 0, none⟩ v1).setCell ⟨b, 1, none⟩ v2).setCell ⟨b, 2, none⟩ v3).setCell ⟨b, 3, none⟩ v4) b t [v1, v2, v3, v4] := (((h.same 0 v1).same 1 v2).same 2 v3).same 3 v4
theorem below_put4A {B b : Nat} {w w' : World} (h : Below B w w') (hB : B ≤ b) (v1 v2 v3 v4 : Value) : Below B w ((((w'.setCell ⟨b, 0, none⟩ v1).setCell ⟨b, 1, none⟩ v2).setCell ⟨b, 2, none⟩ v3).setCell ⟨b, 3, none⟩ v4) :=
  (((h.setCell (p := ⟨b, 0, none⟩) hB v1).setCell (p := ⟨b, 1, none⟩) hB v2).setCell (p := ⟨b, 2, none⟩) hB v3).setCell (p := ⟨b, 3, none⟩) hB v4
theorem cell_put4A {w : World} {b b' j : Nat} {v : Value} (h : w.cell? ⟨b', j, none⟩ = some v) (hne : b' ≠ b) (v1 v2 v3 v4 : Value) : ((((w.setCell ⟨b, 0, none⟩ v1).setCell ⟨b, 1, none⟩ v2).setCell ⟨b, 2, none⟩ v3).setCell ⟨b, 3, none⟩ v4).cell? ⟨b', j, none⟩ = some v := by
  have e : ∀ (W : World) (o : Nat) (u : Value), (W.setCell ⟨b, o, none⟩ u).cell? ⟨b', j, none⟩ = W.cell? ⟨b', j, none⟩ := fun W o u => World.cell?_of_block (Below.heap_setCell _ _ _ _ hne)
  rw [e, e, e, e]
  exact h
def TwoBox (w0 : World) (va vb : Value × Value × Value × Value) (s4 s5 : Value) (wx : World) : Prop :=
  ∃ BA BB, s4 = .pointer (some ⟨BA, 0, none⟩) ∧ s5 = .pointer (some ⟨BB, 0, none⟩) ∧ BoxA BA va.1 va.2.1 va.2.2.1 va.2.2.2 wx ∧ BoxA BB vb.1 vb.2.1 vb.2.2.1 vb.2.2.2 wx ∧ Below w0.heap.size w0 wx
theorem BoxA.drew {B : Nat} {v1 v2 v3 v4 : Value} {w : World} (h : BoxA B v1 v2 v3 v4 w) : BoxA B v1 v2 v3 v4 w.drew := ⟨h.c1, h.c2, h.c3, h.c4⟩
theorem boxes_new (w0 : World) (a1 a2 a3 a4 b1 b2 b3 b4 : Value) (t : TypeId) :
    BoxA w0.heap.size a1 a2 a3 a4 (((w0.alloc (.cells #[a1, a2, a3, a4] t)).alloc (.cells #[b1, b2, b3, b4] t)).drew) ∧ BoxA (w0.heap.size + 1) b1 b2 b3 b4 (((w0.alloc (.cells #[a1, a2, a3, a4] t)).alloc (.cells #[b1, b2, b3, b4] t)).drew) ∧ Below w0.heap.size w0 (((w0.alloc (.cells #[a1, a2, a3, a4] t)).alloc (.cells #[b1, b2, b3, b4] t)).drew) := by
  obtain ⟨h1, h2⟩ := boxA_new w0 a1 a2 a3 a4 t
  obtain ⟨h3, h4⟩ := boxA_new (w0.alloc (.cells #[a1, a2, a3, a4] t)) b1 b2 b3 b4 t
  rw [show (w0.alloc (.cells #[a1, a2, a3, a4] t)).heap.size = w0.heap.size + 1 by simp] at h3
  exact ⟨(h1.below h4).drew, h3.drew, Below.drew (below_newA h2 h4)⟩
set_option maxRecDepth 100000 in
set_option maxHeartbeats 4000000 in
theorem nTwo_any (k : Int) (s : List UInt8) (n : Int) (a b : AskT) (A : Option Addr) (c : Nat) (w : World) (ok : Nat → Prop) (hA : AskP ok w (.mk k s n [a, b]) A c) (ha : okA a) (hb : okA b) (hsa : sizeA a ≤ 60) (hsb : sizeA b ≤ 60) (hT : NTab w) :
    Calls Tryd.prog 38 #[askV (.mk k s n [a, b]) A c] w (RulePost ok (.mk k s n [a, b]) (twoA k a b) w) := by
  have HPX := Lib.hid hA
  have HA := Lib.hid (AskP.at_ _ _ _ hA)
  have HNT := Lib.hid hT
  obtain ⟨y, hy⟩ := boxA_new w (.int .i64 k) (.string ⟨s.toArray⟩) (.int .i64 n) (.slice A 2 c) 24
  obtain ⟨r, hr⟩ := boxA_new (w.alloc (.cells #[.int .i64 k, .string ⟨s.toArray⟩, .int .i64 n, .slice A 2 c] 24)) (.int .i64 0) (.string ⟨#[]⟩) (.int .i64 0) (.slice none 0 0) 24
  have Y := Lib.hid (y.below hr)
  rw [show (w.alloc (.cells #[.int .i64 k, .string ⟨s.toArray⟩, .int .i64 n, .slice A 2 c] 24)).heap.size = w.heap.size + 1 by simp] at r
  have hbr := Blk.new (w.alloc (.cells #[.int .i64 k, .string ⟨s.toArray⟩, .int .i64 n, .slice A 2 c] 24)) #[.int .i64 0, .string ⟨#[]⟩, .int .i64 0, .slice none 0 0] 24
  rw [show (w.alloc (.cells #[.int .i64 k, .string ⟨s.toArray⟩, .int .i64 n, .slice A 2 c] 24)).heap.size = w.heap.size + 1 by simp] at hbr
  have RB := Lib.hid hbr
  clear hbr
  have R := Lib.hid r
  have HY := Lib.hid (below_newA hy hr)
  clear hA hT y hy r hr
  unfold askV
  simp only [AskT.kind, AskT.name, AskT.n, AskT.X, List.length_cons, List.length_nil]
  generalize hbs : (⟨s.toArray⟩ : ByteArray) = bs at *
  have HBS := Lib.hid hbs
  clear hbs
  go_enter Tryd.func38, Tryd.ntmps38
  go_upto_region 1 with fail
  generalize (w.alloc (.cells #[.int .i64 k, .string bs, .int .i64 n, .slice A 2 c] 24)).alloc (.cells #[.int .i64 0, .string ⟨#[]⟩, .int .i64 0, .slice none 0 0] 24) = w0 at *
  obtain ⟨b0, off, Aa, ca, rfl, p1, p2, p3, p4, hca⟩ := AskP.child HPX.out (i := 0) (x := a) rfl
  obtain ⟨b1, off1, Ab, cb, hAe, q1, q2, q3, q4, hcb⟩ := AskP.child HPX.out (i := 1) (x := b) rfl
  replace p1 := cell_keptA p1 HY.out
  replace p2 := cell_keptA p2 HY.out
  replace p3 := cell_keptA p3 HY.out
  replace p4 := cell_keptA p4 HY.out
  replace q1 := cell_keptA q1 HY.out
  replace q2 := cell_keptA q2 HY.out
  replace q3 := cell_keptA q3 HY.out
  replace q4 := cell_keptA q4 HY.out
  injection hAe with hAe
  injection hAe with hA1 hA2 _
  subst hA1 hA2
  simp only [Nat.zero_mul, Nat.add_zero, Nat.one_mul] at p1 p2 p3 p4 q1 q2 q3 q4
  have HPA := Lib.hid hca
  have HPB := Lib.hid hcb
  have HCA := Lib.hid (AskP.at_ _ _ _ hca)
  have HCB := Lib.hid (AskP.at_ _ _ _ hcb)
  clear hca hcb
  have CTA := Lib.hid (fun W (hb2 : Below w0.heap.size w0 W) => nText_any a Aa ca W (AskAt.keep (below_newA HY.out hb2) _ _ _ HCA.out) ha hsa (HNT.out.below (below_newA HY.out hb2)))
  have CTB := Lib.hid (fun W (hb2 : Below w0.heap.size w0 W) => nText_any b Ab cb W (AskAt.keep (below_newA HY.out hb2) _ _ _ HCB.out) hb hsb (HNT.out.below (below_newA HY.out hb2)))
  unfold askV StrPost at CTA CTB
  have HVA : Hid (askV a Aa ca = .agg #[.int .i64 a.kind, .string ⟨a.name.toArray⟩, .int .i64 a.n, .slice Aa a.X.length ca]) := Lib.hid rfl
  have HVB : Hid (askV b Ab cb = .agg #[.int .i64 b.kind, .string ⟨b.name.toArray⟩, .int .i64 b.n, .slice Ab b.X.length cb]) := Lib.hid rfl
  have HVX : Hid (askV (.mk k s n [a, b]) (some ⟨b0, off, none⟩) c = .agg #[.int .i64 k, .string bs, .int .i64 n, .slice (some ⟨b0, off, none⟩) 2 c]) := Lib.hid (by rw [← HBS.out]; rfl)
  generalize hba : (⟨a.name.toArray⟩ : ByteArray) = ban at *
  generalize hbb : (⟨b.name.toArray⟩ : ByteArray) = bbn at *
  have HBA := Lib.hid hba
  have HBB := Lib.hid hbb
  clear hba hbb
  obtain ⟨BX, hBX⟩ : ∃ BX, BX = w.heap.size := ⟨_, rfl⟩
  have HBXE := Lib.hid hBX
  rw [← hBX] at Y R RB ⊢
  clear hBX
  obtain ⟨y1, y2, y3, y4⟩ := Y.out
  obtain ⟨r1, r2, r3, r4⟩ := R.out
  go_cut [4, 5] (fun s4 s5 wx => TwoBox w0 (.int .i64 a.kind, .string ban, .int .i64 a.n, .slice Aa a.X.length ca) (.int .i64 b.kind, .string bbn, .int .i64 b.n, .slice Ab b.X.length cb) s4 s5 wx)
  case first =>
    generalize a.kind = ka at *
    generalize b.kind = kb at *
    generalize a.n = na at *
    generalize b.n = nb at *
    generalize a.X.length = la at *
    generalize b.X.length = lb at *
    have u0 := fun o => cell_new y4 o
    have u1 := fun o => cell_new p1 o
    have u2 := fun o => cell_new p2 o
    have u3 := fun o => cell_new p3 o
    have u4 := fun o => cell_new p4 o
    have v1 := fun o => cell_new q1 o
    have v2 := fun o => cell_new q2 o
    have v3 := fun o => cell_new q3 o
    have v4 := fun o => cell_new q4 o
    have x0 := fun o o' => cell_new (cell_new y4 o) o'
    have x1 := fun o o' => cell_new (cell_new p1 o) o'
    have x2 := fun o o' => cell_new (cell_new p2 o) o'
    have x3 := fun o o' => cell_new (cell_new p3 o) o'
    have x4 := fun o o' => cell_new (cell_new p4 o) o'
    have z1 := fun o o' => cell_new (cell_new q1 o) o'
    have z2 := fun o o' => cell_new (cell_new q2 o) o'
    have z3 := fun o o' => cell_new (cell_new q3 o) o'
    have z4 := fun o o' => cell_new (cell_new q4 o) o'
    go_region
    · go_wp2_with fail
      go_meet
      obtain ⟨h1, h2, h3⟩ := boxes_new w0 (.int .i64 ka) (.string ban) (.int .i64 na) (.slice Aa la ca) (.int .i64 kb) (.string bbn) (.int .i64 nb) (.slice Ab lb cb) 24
      exact ⟨_, _, rfl, rfl, h1, h2, h3⟩
    · go_wp2_with fail
      go_meet
      obtain ⟨h1, h2, h3⟩ := boxes_new w0 (.int .i64 kb) (.string bbn) (.int .i64 nb) (.slice Ab lb cb) (.int .i64 ka) (.string ban) (.int .i64 na) (.slice Aa la ca) 24
      exact ⟨_, _, rfl, rfl, h2, h1, h3⟩
  case rest =>
  obtain ⟨BA, BB, rfl, rfl, hBA, hBB, hb1⟩ := hcut
  have HBX := Lib.hid hBA
  have HBY := Lib.hid hBB
  have HB1 := Lib.hid hb1
  have RB1 := Lib.hid (RB.out.below hb1 RB.out.lt)
  have Y1 := Lib.hid (Y.out.below hb1)
  have R1 := Lib.hid (R.out.below hb1)
  clear hBA hBB hb1 y1 y2 y3 y4 r1 r2 r3 r4 p1 p2 p3 p4 q1 q2 q3 q4
  generalize hw1 : wc = w1 at *
  clear hw1
  have HSL := Lib.hid (fun W (hW : Below w1.heap.size w1 W) => (⟨(HBX.out.below hW).c1, (HBX.out.below hW).c2, (HBX.out.below hW).c3, (HBX.out.below hW).c4, (HBY.out.below hW).c1, (HBY.out.below hW).c2, (HBY.out.below hW).c3, (HBY.out.below hW).c4, hW⟩ : W.cell? ⟨BA, 0, none⟩ = some (.int .i64 a.kind) ∧ W.cell? ⟨BA, 1, none⟩ = some (.string ban) ∧ W.cell? ⟨BA, 2, none⟩ = some (.int .i64 a.n) ∧ W.cell? ⟨BA, 3, none⟩ = some (.slice Aa a.X.length ca) ∧ W.cell? ⟨BB, 0, none⟩ = some (.int .i64 b.kind) ∧ W.cell? ⟨BB, 1, none⟩ = some (.string bbn) ∧ W.cell? ⟨BB, 2, none⟩ = some (.int .i64 b.n) ∧ W.cell? ⟨BB, 3, none⟩ = some (.slice Ab b.X.length cb) ∧ Below w1.heap.size w1 W))
  have CTA1 := Lib.hid (fun W (hb2 : Below w1.heap.size w1 W) => CTA.out W (below_newA HB1.out hb2))
  have CTB1 := Lib.hid (fun W (hb2 : Below w1.heap.size w1 W) => CTB.out W (below_newA HB1.out hb2))
  generalize hta : (⟨(textA a).toArray⟩ : ByteArray) = ta at *
  generalize htb : (⟨(textA b).toArray⟩ : ByteArray) = tb at *
  have HTA := Lib.hid hta
  have HTB := Lib.hid htb
  clear hta htb
  go_upto_region 2 with fail
  go_cut [6, 7] (fun s6 s7 wx => s6 = .string ta ∧ s7 = .string tb ∧ Below w1.heap.size w1 wx)
  case first =>
    have bd : Below w1.heap.size w1 w1.drew := Below.drew (Below.refl _ _)
    generalize a.kind = ka at *
    generalize b.kind = kb at *
    generalize a.n = na at *
    generalize b.n = nb at *
    generalize a.X.length = la at *
    generalize b.X.length = lb at *
    go_region_held3 (fun W => W.cell? ⟨BA, 0, none⟩ = some (.int .i64 ka) ∧ W.cell? ⟨BA, 1, none⟩ = some (.string ban) ∧ W.cell? ⟨BA, 2, none⟩ = some (.int .i64 na) ∧ W.cell? ⟨BA, 3, none⟩ = some (.slice Aa la ca) ∧ W.cell? ⟨BB, 0, none⟩ = some (.int .i64 kb) ∧ W.cell? ⟨BB, 1, none⟩ = some (.string bbn) ∧ W.cell? ⟨BB, 2, none⟩ = some (.int .i64 nb) ∧ W.cell? ⟨BB, 3, none⟩ = some (.slice Ab lb cb) ∧ Below w1.heap.size w1 W)
      ((refine HSL.out _ ?_; first | assumption | exact Below.drew (by assumption)))
      ((first
        | (go_at_call 40; (with_reducible refine (CTA1.out _ (by first | assumption | exact Below.drew (by assumption))).mono ?_); rintro e u7 ⟨rfl, h7⟩; have b7 := below_then (by first | assumption | exact Below.drew (by assumption)) h7)
        | (go_at_call 40; (with_reducible refine (CTB1.out _ (by first | assumption | exact Below.drew (by assumption))).mono ?_); rintro e u8 ⟨rfl, h8⟩; have b8 := below_then (by first | assumption | exact Below.drew (by assumption)) h8)))
    all_goals
      go_wp2_with fail
      go_meet
      exact ⟨rfl, rfl, by first | assumption | exact Below.drew (by assumption)⟩
  case rest =>
    obtain ⟨rfl, rfl, hb2⟩ := hcut
    have X2 := Lib.hid (HBX.out.below hb2)
    have B2 := Lib.hid (HBY.out.below hb2)
    have Y2 := Lib.hid (Y1.out.below hb2)
    have R2 := Lib.hid (R1.out.below hb2)
    have HB2 := Lib.hid (below_newA HB1.out hb2)
    have RB2 := Lib.hid (RB1.out.below hb2 RB1.out.lt)
    clear hb2 HSL
    generalize hw2 : wc = w2 at *
    clear hw2
    generalize hka : a.kind = ka at *
    generalize hkb : b.kind = kb at *
    generalize hna : a.n = na at *
    generalize hnb : b.n = nb at *
    generalize hla : a.X.length = la at *
    generalize hlb : b.X.length = lb at *
    have HKA := Lib.hid hka
    have HKB := Lib.hid hkb
    have HNA := Lib.hid hna
    have HNB := Lib.hid hnb
    have HLA := Lib.hid hla
    have HLB := Lib.hid hlb
    clear hka hkb hla hlb hna hnb
    have HEQ : Hid ((ta.toList == tb.toList) = decide (textA a = textA b)) := Lib.hid (by rw [← HTA.out, ← HTB.out]; exact eq_sv _ _)
    obtain ⟨x1, x2, x3, x4⟩ := X2.out
    obtain ⟨b1, b2, b3, b4⟩ := B2.out
    obtain ⟨y1, y2, y3, y4⟩ := Y2.out
    obtain ⟨r1, r2, r3, r4⟩ := R2.out
    go_upto_region 3 with fail
    go_cut [8, 9] (fun s8 s9 wx => s8 = .bool (ka == 2) ∧ s9 = .bool (kb == 2) ∧ ∃ m, wx = w2.drewN m)
    case first =>
      go_quiet (fail)
      go_wp2_with fail
      go_meet
      exact ⟨rfl, rfl, _, rfl⟩
    case rest =>
    obtain ⟨rfl, rfl, m, hwm⟩ := hcut
    have R3' : Blk wc (BX + 1) 24 [.int .i64 0, .string ⟨#[]⟩, .int .i64 0, .slice none 0 0] := by rw [hwm]; exact RB2.out
    have RB3 := Lib.hid R3'
    have hb3 : Below w.heap.size w wc := by rw [hwm]; exact below_drewN (below_newA HY.out HB2.out) m
    have HB3 := Lib.hid hb3
    have X3 : BoxA BA (.int .i64 ka) (.string ban) (.int .i64 na) (.slice Aa la ca) wc := by rw [hwm]; exact ⟨X2.out.c1, X2.out.c2, X2.out.c3, X2.out.c4⟩
    have B3 : BoxA BB (.int .i64 kb) (.string bbn) (.int .i64 nb) (.slice Ab lb cb) wc := by rw [hwm]; exact ⟨B2.out.c1, B2.out.c2, B2.out.c3, B2.out.c4⟩
    have Y3 : BoxA BX (.int .i64 k) (.string bs) (.int .i64 n) (.slice (some ⟨b0, off, none⟩) 2 c) wc := by rw [hwm]; exact ⟨Y2.out.c1, Y2.out.c2, Y2.out.c3, Y2.out.c4⟩
    clear x1 x2 x3 x4 b1 b2 b3 b4 y1 y2 y3 y4 r1 r2 r3 r4 R3' hb3
    generalize hw3 : wc = w3 at *
    clear hw3 hwm
    obtain ⟨x1, x2, x3, x4⟩ := X3
    obtain ⟨b1, b2, b3, b4⟩ := B3
    obtain ⟨y1, y2, y3, y4⟩ := Y3
    have rf := RB3.out.free
    have r1 := RB3.out.cell (j := 0) rfl
    have r2 := RB3.out.cell (j := 1) rfl
    have r3 := RB3.out.cell (j := 2) rfl
    have r4 := RB3.out.cell (j := 3) rfl
    have HTD : Hid (twoA k a b = if textA a = textA b then some a else if k = 5 ∧ (ka = 2 ∨ kb = 2) then some (.mk 2 [] 0 []) else if ka = 2 then some b else if kb = 2 then some a else if textA b < textA a then some (.mk k [] 0 [b, a]) else none) := Lib.hid (by unfold twoA; rw [HKA.out, HKB.out])
    by_cases h1 : textA a = textA b
    · have e1 : (ta.toList == tb.toList) = true := by rw [HEQ.out]; exact decide_eq_true h1
      have HTW : Hid (twoA k a b = some a) := Lib.hid (by rw [HTD.out, if_pos h1])
      clear h1
      go_wp2_with fail
      have RZ := Lib.hid (blk_put4 RB3.out (.int .i64 ka) (.string ban) (.int .i64 na) (.slice Aa la ca))
      have BZ := Lib.hid (below_put4A HB3.out (by rw [HBXE.out]; omega : w.heap.size ≤ BX + 1) (.int .i64 ka) (.string ban) (.int .i64 na) (.slice Aa la ca))
      generalize ((((w3.setCell ⟨BX + 1, 0, none⟩ (.int .i64 ka)).setCell ⟨BX + 1, 1, none⟩ (.string ban)).setCell ⟨BX + 1, 2, none⟩ (.int .i64 na)).setCell ⟨BX + 1, 3, none⟩ (.slice Aa la ca)) = wz at *
      have q1 := RZ.out.cell (j := 0) rfl
      have q2 := RZ.out.cell (j := 1) rfl
      have q3 := RZ.out.cell (j := 2) rfl
      have q4 := RZ.out.cell (j := 3) rfl
      refine bodyPost_ret (v := .tuple #[.agg #[.int .i64 ka, .string ban, .int .i64 na, .slice Aa la ca], .bool true]) (by simp [results, Tryd.results38, go_sem, q1, q2, q3, q4]) rfl ?_
      exact rulePost_mk (y := a) (A := Aa) (c := ca) (by rw [HTW.out]; rfl) (by rw [HTW.out]; rfl) HVA.out rfl (rule_keep HPA.out BZ.out) BZ.out
    have e1 : (ta.toList == tb.toList) = false := by rw [HEQ.out]; exact decide_eq_false h1
    by_cases h2 : k = 5 ∧ (ka = 2 ∨ kb = 2)
    · have HTW : Hid (twoA k a b = some (.mk 2 [] 0 [])) := Lib.hid (by rw [HTD.out, if_neg h1, if_pos h2])
      have e5 : (k == 5) = true := by simp [h2.1]
      have hor : (ka == 2) = true ∨ ((ka == 2) = false ∧ (kb == 2) = true) := by
        by_cases h : ka = 2
        · exact .inl (by simp [h])
        · exact .inr ⟨by simp [h], by simp [h2.2.resolve_left h]⟩
      clear h1 h2
      rcases hor with f1 | ⟨f1, f2⟩
      all_goals
        go_wp2_with fail
        have RZ := Lib.hid (blk_put4 RB3.out (.int .i64 2) (.string ⟨#[]⟩) (.int .i64 0) (.slice none 0 0))
        have BZ := Lib.hid (below_put4A HB3.out (by rw [HBXE.out]; omega : w.heap.size ≤ BX + 1) (.int .i64 2) (.string ⟨#[]⟩) (.int .i64 0) (.slice none 0 0))
        generalize ((((w3.setCell ⟨BX + 1, 0, none⟩ (.int .i64 2)).setCell ⟨BX + 1, 1, none⟩ (.string ⟨#[]⟩)).setCell ⟨BX + 1, 2, none⟩ (.int .i64 0)).setCell ⟨BX + 1, 3, none⟩ (.slice none 0 0)) = wz at *
        have q1 := RZ.out.cell (j := 0) rfl
        have q2 := RZ.out.cell (j := 1) rfl
        have q3 := RZ.out.cell (j := 2) rfl
        have q4 := RZ.out.cell (j := 3) rfl
        refine bodyPost_ret (v := .tuple #[.agg #[.int .i64 2, .string ⟨#[]⟩, .int .i64 0, .slice none 0 0], .bool true]) (by simp [results, Tryd.results38, go_sem, q1, q2, q3, q4]) rfl ?_
        exact rulePost_mk (y := AskT.mk 2 [] 0 []) (A := none) (c := 0) (by rw [HTW.out]; rfl) (by rw [HTW.out]; rfl) rfl rfl (askP_nil _ _ _) BZ.out
    have hor2 : (k == 5) = false ∨ ((k == 5) = true ∧ (ka == 2) = false ∧ (kb == 2) = false) := by
      by_cases h : k = 5
      · exact .inr ⟨by simp [h], by simp; exact fun e => h2 ⟨h, .inl e⟩, by simp; exact fun e => h2 ⟨h, .inr e⟩⟩
      · exact .inl (by simp [h])
    by_cases h3 : ka = 2
    · have HTW : Hid (twoA k a b = some b) := Lib.hid (by rw [HTD.out, if_neg h1, if_neg h2, if_pos h3])
      have f1 : (ka == 2) = true := by simp [h3]
      have f0 : (k == 5) = false := by rcases hor2 with h | ⟨_, h, _⟩; exact h; rw [f1] at h; cases h
      clear h1 h2 h3 hor2
      go_wp2_with fail
      have RZ := Lib.hid (blk_put4 RB3.out (.int .i64 kb) (.string bbn) (.int .i64 nb) (.slice Ab lb cb))
      have BZ := Lib.hid (below_put4A HB3.out (by rw [HBXE.out]; omega : w.heap.size ≤ BX + 1) (.int .i64 kb) (.string bbn) (.int .i64 nb) (.slice Ab lb cb))
      generalize ((((w3.setCell ⟨BX + 1, 0, none⟩ (.int .i64 kb)).setCell ⟨BX + 1, 1, none⟩ (.string bbn)).setCell ⟨BX + 1, 2, none⟩ (.int .i64 nb)).setCell ⟨BX + 1, 3, none⟩ (.slice Ab lb cb)) = wz at *
      have q1 := RZ.out.cell (j := 0) rfl
      have q2 := RZ.out.cell (j := 1) rfl
      have q3 := RZ.out.cell (j := 2) rfl
      have q4 := RZ.out.cell (j := 3) rfl
      refine bodyPost_ret (v := .tuple #[.agg #[.int .i64 kb, .string bbn, .int .i64 nb, .slice Ab lb cb], .bool true]) (by simp [results, Tryd.results38, go_sem, q1, q2, q3, q4]) rfl ?_
      exact rulePost_mk (y := b) (A := Ab) (c := cb) (by rw [HTW.out]; rfl) (by rw [HTW.out]; rfl) HVB.out rfl (rule_keep HPB.out BZ.out) BZ.out
    have f1 : (ka == 2) = false := by simp [h3]
    by_cases h4 : kb = 2
    · have HTW : Hid (twoA k a b = some a) := Lib.hid (by rw [HTD.out, if_neg h1, if_neg h2, if_neg h3, if_pos h4])
      have f2 : (kb == 2) = true := by simp [h4]
      have f0 : (k == 5) = false := by rcases hor2 with h | ⟨_, _, h⟩; exact h; rw [f2] at h; cases h
      clear h1 h2 h3 h4 hor2
      go_wp2_with fail
      have RZ := Lib.hid (blk_put4 RB3.out (.int .i64 ka) (.string ban) (.int .i64 na) (.slice Aa la ca))
      have BZ := Lib.hid (below_put4A HB3.out (by rw [HBXE.out]; omega : w.heap.size ≤ BX + 1) (.int .i64 ka) (.string ban) (.int .i64 na) (.slice Aa la ca))
      generalize ((((w3.setCell ⟨BX + 1, 0, none⟩ (.int .i64 ka)).setCell ⟨BX + 1, 1, none⟩ (.string ban)).setCell ⟨BX + 1, 2, none⟩ (.int .i64 na)).setCell ⟨BX + 1, 3, none⟩ (.slice Aa la ca)) = wz at *
      have q1 := RZ.out.cell (j := 0) rfl
      have q2 := RZ.out.cell (j := 1) rfl
      have q3 := RZ.out.cell (j := 2) rfl
      have q4 := RZ.out.cell (j := 3) rfl
      refine bodyPost_ret (v := .tuple #[.agg #[.int .i64 ka, .string ban, .int .i64 na, .slice Aa la ca], .bool true]) (by simp [results, Tryd.results38, go_sem, q1, q2, q3, q4]) rfl ?_
      exact rulePost_mk (y := a) (A := Aa) (c := ca) (by rw [HTW.out]; rfl) (by rw [HTW.out]; rfl) HVA.out rfl (rule_keep HPA.out BZ.out) BZ.out
    have f2 : (kb == 2) = false := by simp [h4]
    have HLT : Hid (Op.bytesLess ta.toList tb.toList = decide (textA a < textA b)) := Lib.hid (by rw [← HTA.out, ← HTB.out]; exact less_sv _ _)
    by_cases h5 : textA b < textA a
    · have HTW : Hid (twoA k a b = some (.mk k [] 0 [b, a])) := Lib.hid (by rw [HTD.out, if_neg h1, if_neg h2, if_neg h3, if_neg h4, if_pos h5])
      have f3 : Op.bytesLess ta.toList tb.toList = false := by rw [HLT.out]; exact decide_eq_false (fun h => List.lt_asymm h h5)
      clear h1 h2 h3 h4 h5
      rcases hor2 with f0 | ⟨f0, _, _⟩
      all_goals
        have HB8 := Lib.hid (below_new HB3.out (.cells #[.int .i64 kb, .string bbn, .int .i64 nb, .slice Ab lb cb, .int .i64 ka, .string ban, .int .i64 na, .slice Aa la ca] 24))
        have RB8 := Lib.hid (RB3.out.below (below_new (Below.refl _ _) (.cells #[.int .i64 kb, .string bbn, .int .i64 nb, .slice Ab lb cb, .int .i64 ka, .string ban, .int .i64 na, .slice Aa la ca] 24)) RB3.out.lt)
        have n1 := RB8.out.cell (j := 0) rfl
        have n2 := RB8.out.cell (j := 1) rfl
        have n3 := RB8.out.cell (j := 2) rfl
        have n4 := RB8.out.cell (j := 3) rfl
        have nf := RB8.out.free
        have HGE : Hid (w.heap.size ≤ w3.heap.size) := Lib.hid HB3.out.size
        have HNE : Hid (w3.heap.size ≠ BX + 1) := Lib.hid (by have := RB3.out.lt; omega)
        have HC8 : Hid (∀ j u, ([.int .i64 b.kind, .string ⟨b.name.toArray⟩, .int .i64 b.n, .slice Ab b.X.length cb, .int .i64 a.kind, .string ⟨a.name.toArray⟩, .int .i64 a.n, .slice Aa a.X.length ca] : List Value)[j]? = some u → (w3.alloc (.cells #[.int .i64 kb, .string bbn, .int .i64 nb, .slice Ab lb cb, .int .i64 ka, .string ban, .int .i64 na, .slice Aa la ca] 24)).cell? ⟨w3.heap.size, j, none⟩ = some u) := Lib.hid (fun j u hu => by
          rw [HKA.out, HKB.out, HNA.out, HNB.out, HLA.out, HLB.out, HBA.out, HBB.out] at hu
          rw [World.cell?_alloc_at _ _ _ _ rfl]
          simpa using hu)
        go_wp2_with fail
        have RZ := Lib.hid (blk_put4 RB8.out (.int .i64 k) (.string ⟨#[]⟩) (.int .i64 0) (.slice (some ⟨w3.heap.size, 0, none⟩) 2 2))
        have BZ := Lib.hid (below_put4A HB8.out (by rw [HBXE.out]; omega : w.heap.size ≤ BX + 1) (.int .i64 k) (.string ⟨#[]⟩) (.int .i64 0) (.slice (some ⟨w3.heap.size, 0, none⟩) 2 2))
        have HCZ := Lib.hid (fun j u hu => cell_put4A (HC8.out j u hu) HNE.out (.int .i64 k) (.string ⟨#[]⟩) (.int .i64 0) (.slice (some ⟨w3.heap.size, 0, none⟩) 2 2))
        generalize (((((w3.alloc (.cells #[.int .i64 kb, .string bbn, .int .i64 nb, .slice Ab lb cb, .int .i64 ka, .string ban, .int .i64 na, .slice Aa la ca] 24)).setCell ⟨BX + 1, 0, none⟩ (.int .i64 k)).setCell ⟨BX + 1, 1, none⟩ (.string ⟨#[]⟩)).setCell ⟨BX + 1, 2, none⟩ (.int .i64 0)).setCell ⟨BX + 1, 3, none⟩ (.slice (some ⟨w3.heap.size, 0, none⟩) 2 2)) = wz at *
        have q1 := RZ.out.cell (j := 0) rfl
        have q2 := RZ.out.cell (j := 1) rfl
        have q3 := RZ.out.cell (j := 2) rfl
        have q4 := RZ.out.cell (j := 3) rfl
        refine bodyPost_ret (v := .tuple #[.agg #[.int .i64 k, .string ⟨#[]⟩, .int .i64 0, .slice (some ⟨w3.heap.size, 0, none⟩) 2 2], .bool true]) (by simp [results, Tryd.results38, go_sem, q1, q2, q3, q4]) rfl ?_
        exact rulePost_mk (y := AskT.mk k [] 0 [b, a]) (A := some ⟨w3.heap.size, 0, none⟩) (c := 2) (by rw [HTW.out]; rfl) (by rw [HTW.out]; rfl) rfl rfl (askP_two k [] 0 (.inr HGE.out) HCZ.out (rule_keep HPB.out BZ.out) (rule_keep HPA.out BZ.out)) BZ.out
    · have HTW : Hid (twoA k a b = none) := Lib.hid (by rw [HTD.out, if_neg h1, if_neg h2, if_neg h3, if_neg h4, if_neg h5])
      have f3 : Op.bytesLess ta.toList tb.toList = true := by rw [HLT.out]; exact decide_eq_true (slt_of_not h1 h5)
      clear h1 h2 h3 h4 h5
      rcases hor2 with f0 | ⟨f0, _, _⟩
      all_goals
        go_wp2_with fail
        have RZ := Lib.hid (blk_put4 RB3.out (.int .i64 k) (.string bs) (.int .i64 n) (.slice (some ⟨b0, off, none⟩) 2 c))
        have BZ := Lib.hid (below_put4A HB3.out (by rw [HBXE.out]; omega : w.heap.size ≤ BX + 1) (.int .i64 k) (.string bs) (.int .i64 n) (.slice (some ⟨b0, off, none⟩) 2 c))
        generalize ((((w3.setCell ⟨BX + 1, 0, none⟩ (.int .i64 k)).setCell ⟨BX + 1, 1, none⟩ (.string bs)).setCell ⟨BX + 1, 2, none⟩ (.int .i64 n)).setCell ⟨BX + 1, 3, none⟩ (.slice (some ⟨b0, off, none⟩) 2 c)) = wz at *
        have q1 := RZ.out.cell (j := 0) rfl
        have q2 := RZ.out.cell (j := 1) rfl
        have q3 := RZ.out.cell (j := 2) rfl
        have q4 := RZ.out.cell (j := 3) rfl
        refine bodyPost_ret (v := .tuple #[.agg #[.int .i64 k, .string bs, .int .i64 n, .slice (some ⟨b0, off, none⟩) 2 c], .bool false]) (by simp [results, Tryd.results38, go_sem, q1, q2, q3, q4]) rfl ?_
        exact rulePost_mk (y := AskT.mk k s n [a, b]) (A := some ⟨b0, off, none⟩) (c := c) (by rw [HTW.out]; rfl) (by rw [HTW.out]; rfl) HVX.out rfl (rule_keep HPX.out BZ.out) BZ.out
end Go.Proofs.YtcodncddaemhlaaDoor
/- Contract: norm.walks. Asks that are right. -/
namespace Go.Proofs.YtcodncddaemhlaaDoor
open Go.RowKit

set_option maxRecDepth 100000 in
set_option maxHeartbeats 4000000 in
theorem nWalks_any (k : Int) (s : List UInt8) (n : Int) (a : AskT) (A : Option Addr) (c : Nat) (w : World) (wh pa : Int) (ok : Nat → Prop) (hA : AskP ok w (.mk k s n [a]) A c) (hok : okA (.mk k s n [a])) (hk : k = 8 ∨ k = 9 ∨ k = 10 ∨ k = 11) (hwh : wh = wholeK k) (hpa : pa = wholeK k + 2) :
    Calls Tryd.prog 39 #[askV (.mk k s n [a]) A c, .int .i64 wh, .int .i64 pa] w (RulePost ok (.mk k s n [a]) (walkA k n a) w) := by
  have HPX := Lib.hid hA
  have hn : 0 ≤ n ∧ n ≤ 100 := by
    rcases hk with h | h | h | h
    · have := (ok_form hok).2.2.2.2 (by rw [h]; rfl); omega
    · have := (ok_form hok).2.2.2.2 (by rw [h]; rfl); omega
    · exact ok_num hok (.inl h)
    · exact ok_num hok (.inr h)
  have ha := ok_kids hok a (by simp)
  have HNA : Hid (a.kind = pa → 0 ≤ a.n ∧ a.n ≤ 100) := Lib.hid (fun h => by
    obtain ⟨k', s', n', X'⟩ := a
    refine ok_num ha ?_
    have h' : k' = wholeK k + 2 := h.trans hpa
    rw [h']
    rcases hk with h | h | h | h <;> rw [h] <;> decide)
  have HTD : Hid (walkA k n a = if k = pa ∧ n = 0 then some a else if a.kind = 2 then some (.mk 2 [] 0 []) else if k = wh ∧ (a.kind = wh ∨ a.kind = pa) then some (.mk wh [] 0 a.X) else if a.kind = wh then some a else if a.kind = pa ∧ n + a.n ≤ 100 then some (.mk pa [] (n + a.n) a.X) else none) := Lib.hid (by unfold walkA; rw [hwh, hpa])
  have HA2 : Hid (a.kind = 2 → a = .mk 2 [] 0 []) := Lib.hid (kind_all ha)
  obtain ⟨y, hy⟩ := boxA_new w (.int .i64 k) (.string ⟨s.toArray⟩) (.int .i64 n) (.slice A 1 c) 24
  obtain ⟨r, hr⟩ := boxA_new (w.alloc (.cells #[.int .i64 k, .string ⟨s.toArray⟩, .int .i64 n, .slice A 1 c] 24)) (.int .i64 0) (.string ⟨#[]⟩) (.int .i64 0) (.slice none 0 0) 24
  have Y := Lib.hid (y.below hr)
  have hbr := Blk.new (w.alloc (.cells #[.int .i64 k, .string ⟨s.toArray⟩, .int .i64 n, .slice A 1 c] 24)) #[.int .i64 0, .string ⟨#[]⟩, .int .i64 0, .slice none 0 0] 24
  rw [show (w.alloc (.cells #[.int .i64 k, .string ⟨s.toArray⟩, .int .i64 n, .slice A 1 c] 24)).heap.size = w.heap.size + 1 by simp] at hbr
  have RB := Lib.hid hbr
  have HY := Lib.hid (below_newA hy hr)
  obtain ⟨hn0, hn1⟩ := hn
  clear hA hok hk hwh hpa ha y hy r hr hbr
  unfold askV
  simp only [AskT.kind, AskT.name, AskT.n, AskT.X, List.length_cons, List.length_nil]
  generalize hbs : (⟨s.toArray⟩ : ByteArray) = bs at *
  have HBS := Lib.hid hbs
  clear hbs
  go_enter Tryd.func39, Tryd.ntmps39
  go_upto_region 1 with fail
  generalize (w.alloc (.cells #[.int .i64 k, .string bs, .int .i64 n, .slice A 1 c] 24)).alloc (.cells #[.int .i64 0, .string ⟨#[]⟩, .int .i64 0, .slice none 0 0] 24) = w0 at *
  obtain ⟨b0, off, Aa, ca, rfl, p1, p2, p3, p4, hca⟩ := AskP.child HPX.out (i := 0) (x := a) rfl
  replace p1 := cell_keptA p1 HY.out
  replace p2 := cell_keptA p2 HY.out
  replace p3 := cell_keptA p3 HY.out
  replace p4 := cell_keptA p4 HY.out
  simp only [Nat.zero_mul, Nat.add_zero] at p1 p2 p3 p4
  have HPA := Lib.hid hca
  clear hca
  have HVA : Hid (askV a Aa ca = .agg #[.int .i64 a.kind, .string ⟨a.name.toArray⟩, .int .i64 a.n, .slice Aa a.X.length ca]) := Lib.hid rfl
  have HVX : Hid (askV (.mk k s n [a]) (some ⟨b0, off, none⟩) c = .agg #[.int .i64 k, .string bs, .int .i64 n, .slice (some ⟨b0, off, none⟩) 1 c]) := Lib.hid (by rw [← HBS.out]; rfl)
  have HVW : ∀ j m : Int, askV (.mk j [] m a.X) Aa ca = .agg #[.int .i64 j, .string ⟨#[]⟩, .int .i64 m, .slice Aa a.X.length ca] := fun _ _ => rfl
  have HVW := Lib.hid HVW
  obtain ⟨BX, hBX⟩ : ∃ BX, BX = w.heap.size := ⟨_, rfl⟩
  have HBXE := Lib.hid hBX
  rw [← hBX] at Y RB ⊢
  clear hBX
  obtain ⟨u, hu⟩ := boxA_new w0 (.int .i64 a.kind) (.string ⟨a.name.toArray⟩) (.int .i64 a.n) (.slice Aa a.X.length ca) 24
  have U := Lib.hid u
  have Y1 := Lib.hid (Y.out.below hu)
  have RB1 := Lib.hid (RB.out.below hu RB.out.lt)
  have HB1 := Lib.hid (below_newA HY.out hu)
  clear u hu
  generalize hba : (⟨a.name.toArray⟩ : ByteArray) = ban at *
  clear hba
  generalize a.kind = ka at *
  generalize a.n = na at *
  generalize a.X.length = la at *
  obtain ⟨y1, y2, y3, y4⟩ := Y.out
  go_upto_region 2 with fail
  generalize w0.alloc (.cells #[.int .i64 ka, .string ban, .int .i64 na, .slice Aa la ca] 24) = w1 at *
  clear y1 y2 y3 y4 p1 p2 p3 p4
  generalize w0.heap.size = BA at *
  obtain ⟨x1, x2, x3, x4⟩ := U.out
  obtain ⟨y1, y2, y3, y4⟩ := Y1.out
  have rf := RB1.out.free
  have r1 := RB1.out.cell (j := 0) rfl
  have r2 := RB1.out.cell (j := 1) rfl
  have r3 := RB1.out.cell (j := 2) rfl
  have r4 := RB1.out.cell (j := 3) rfl
  by_cases h1 : k = pa ∧ n = 0
  · have HTW : Hid (walkA k n a = some a) := Lib.hid (by rw [HTD.out, if_pos h1])
    have e1 : (k == pa) = true := by simp [h1.1]
    have e2 : (n == 0) = true := by simp [h1.2]
    clear h1
    go_wp2_with fail
    have RZ := Lib.hid (blk_put4 RB1.out (.int .i64 ka) (.string ban) (.int .i64 na) (.slice Aa la ca))
    have BZ := Lib.hid (below_put4A HB1.out (by rw [HBXE.out]; omega : w.heap.size ≤ BX + 1) (.int .i64 ka) (.string ban) (.int .i64 na) (.slice Aa la ca))
    generalize ((((w1.setCell ⟨BX + 1, 0, none⟩ (.int .i64 ka)).setCell ⟨BX + 1, 1, none⟩ (.string ban)).setCell ⟨BX + 1, 2, none⟩ (.int .i64 na)).setCell ⟨BX + 1, 3, none⟩ (.slice Aa la ca)) = wz at *
    have q1 := RZ.out.cell (j := 0) rfl
    have q2 := RZ.out.cell (j := 1) rfl
    have q3 := RZ.out.cell (j := 2) rfl
    have q4 := RZ.out.cell (j := 3) rfl
    refine bodyPost_ret (v := .tuple #[.agg #[.int .i64 ka, .string ban, .int .i64 na, .slice Aa la ca], .bool true]) (by simp [results, Tryd.results39, go_sem, q1, q2, q3, q4]) rfl ?_
    exact rulePost_mk (y := a) (A := Aa) (c := ca) (by rw [HTW.out]; rfl) (by rw [HTW.out]; rfl) HVA.out rfl (rule_keep HPA.out BZ.out) BZ.out
  have hor1 : (k == pa) = false ∨ ((k == pa) = true ∧ (n == 0) = false) := by
    by_cases h : k = pa
    · exact .inr ⟨by simp [h], by simp; exact fun e => h1 ⟨h, e⟩⟩
    · exact .inl (by simp [h])
  by_cases h2 : ka = 2
  · have HTW : Hid (walkA k n a = some a) := Lib.hid (by rw [HTD.out, if_neg h1, if_pos h2, ← HA2.out h2])
    have e3 : (ka == 2) = true := by simp [h2]
    clear h1 h2
    rcases hor1 with e1 | ⟨e1, e2⟩
    all_goals
      go_wp2_with fail
      have RZ := Lib.hid (blk_put4 RB1.out (.int .i64 ka) (.string ban) (.int .i64 na) (.slice Aa la ca))
      have BZ := Lib.hid (below_put4A HB1.out (by rw [HBXE.out]; omega : w.heap.size ≤ BX + 1) (.int .i64 ka) (.string ban) (.int .i64 na) (.slice Aa la ca))
      generalize ((((w1.setCell ⟨BX + 1, 0, none⟩ (.int .i64 ka)).setCell ⟨BX + 1, 1, none⟩ (.string ban)).setCell ⟨BX + 1, 2, none⟩ (.int .i64 na)).setCell ⟨BX + 1, 3, none⟩ (.slice Aa la ca)) = wz at *
      have q1 := RZ.out.cell (j := 0) rfl
      have q2 := RZ.out.cell (j := 1) rfl
      have q3 := RZ.out.cell (j := 2) rfl
      have q4 := RZ.out.cell (j := 3) rfl
      refine bodyPost_ret (v := .tuple #[.agg #[.int .i64 ka, .string ban, .int .i64 na, .slice Aa la ca], .bool true]) (by simp [results, Tryd.results39, go_sem, q1, q2, q3, q4]) rfl ?_
      exact rulePost_mk (y := a) (A := Aa) (c := ca) (by rw [HTW.out]; rfl) (by rw [HTW.out]; rfl) HVA.out rfl (rule_keep HPA.out BZ.out) BZ.out
  have e3 : (ka == 2) = false := by simp [h2]
  by_cases h3 : k = wh ∧ (ka = wh ∨ ka = pa)
  · have HTW : Hid (walkA k n a = some (.mk wh [] 0 a.X)) := Lib.hid (by rw [HTD.out, if_neg h1, if_neg h2, if_pos h3])
    have e4 : (k == wh) = true := by simp [h3.1]
    have hor2 : (ka == wh) = true ∨ ((ka == wh) = false ∧ (ka == pa) = true) := by
      by_cases h : ka = wh
      · exact .inl (by simp [h])
      · exact .inr ⟨by simp [h], by simp [h3.2.resolve_left h]⟩
    clear h1 h2 h3
    rcases hor1 with e1 | ⟨e1, e2⟩ <;> rcases hor2 with e5 | ⟨e5, e6⟩
    all_goals
      go_wp2_with fail
      have RZ := Lib.hid (blk_put4 RB1.out (.int .i64 wh) (.string ⟨#[]⟩) (.int .i64 0) (.slice Aa la ca))
      have BZ := Lib.hid (below_put4A HB1.out (by rw [HBXE.out]; omega : w.heap.size ≤ BX + 1) (.int .i64 wh) (.string ⟨#[]⟩) (.int .i64 0) (.slice Aa la ca))
      generalize ((((w1.setCell ⟨BX + 1, 0, none⟩ (.int .i64 wh)).setCell ⟨BX + 1, 1, none⟩ (.string ⟨#[]⟩)).setCell ⟨BX + 1, 2, none⟩ (.int .i64 0)).setCell ⟨BX + 1, 3, none⟩ (.slice Aa la ca)) = wz at *
      have q1 := RZ.out.cell (j := 0) rfl
      have q2 := RZ.out.cell (j := 1) rfl
      have q3 := RZ.out.cell (j := 2) rfl
      have q4 := RZ.out.cell (j := 3) rfl
      refine bodyPost_ret (v := .tuple #[.agg #[.int .i64 wh, .string ⟨#[]⟩, .int .i64 0, .slice Aa la ca], .bool true]) (by simp [results, Tryd.results39, go_sem, q1, q2, q3, q4]) rfl ?_
      exact rulePost_mk (y := AskT.mk wh [] 0 a.X) (A := Aa) (c := ca) (by rw [HTW.out]; rfl) (by rw [HTW.out]; rfl) (HVW.out _ _) rfl (askP_X _ _ _ (rule_keep HPA.out BZ.out)) BZ.out
  have hor3 : (k == wh) = false ∨ ((k == wh) = true ∧ (ka == wh) = false ∧ (ka == pa) = false) := by
    by_cases h : k = wh
    · exact .inr ⟨by simp [h], by simp; exact fun e => h3 ⟨h, .inl e⟩, by simp; exact fun e => h3 ⟨h, .inr e⟩⟩
    · exact .inl (by simp [h])
  by_cases h4 : ka = wh
  · have HTW : Hid (walkA k n a = some a) := Lib.hid (by rw [HTD.out, if_neg h1, if_neg h2, if_neg h3, if_pos h4])
    have e5 : (ka == wh) = true := by simp [h4]
    have e4 : (k == wh) = false := by rcases hor3 with h | ⟨_, h, _⟩; exact h; rw [e5] at h; cases h
    clear h1 h2 h3 h4 hor3
    rcases hor1 with e1 | ⟨e1, e2⟩
    all_goals
      go_wp2_with fail
      have RZ := Lib.hid (blk_put4 RB1.out (.int .i64 ka) (.string ban) (.int .i64 na) (.slice Aa la ca))
      have BZ := Lib.hid (below_put4A HB1.out (by rw [HBXE.out]; omega : w.heap.size ≤ BX + 1) (.int .i64 ka) (.string ban) (.int .i64 na) (.slice Aa la ca))
      generalize ((((w1.setCell ⟨BX + 1, 0, none⟩ (.int .i64 ka)).setCell ⟨BX + 1, 1, none⟩ (.string ban)).setCell ⟨BX + 1, 2, none⟩ (.int .i64 na)).setCell ⟨BX + 1, 3, none⟩ (.slice Aa la ca)) = wz at *
      have q1 := RZ.out.cell (j := 0) rfl
      have q2 := RZ.out.cell (j := 1) rfl
      have q3 := RZ.out.cell (j := 2) rfl
      have q4 := RZ.out.cell (j := 3) rfl
      refine bodyPost_ret (v := .tuple #[.agg #[.int .i64 ka, .string ban, .int .i64 na, .slice Aa la ca], .bool true]) (by simp [results, Tryd.results39, go_sem, q1, q2, q3, q4]) rfl ?_
      exact rulePost_mk (y := a) (A := Aa) (c := ca) (by rw [HTW.out]; rfl) (by rw [HTW.out]; rfl) HVA.out rfl (rule_keep HPA.out BZ.out) BZ.out
  have e5 : (ka == wh) = false := by simp [h4]
  by_cases h5 : ka = pa ∧ n + na ≤ 100
  · have HTW : Hid (walkA k n a = some (.mk pa [] (n + na) a.X)) := Lib.hid (by rw [HTD.out, if_neg h1, if_neg h2, if_neg h3, if_neg h4, if_pos h5])
    have e6 : (ka == pa) = true := by simp [h5.1]
    have e4 : (k == wh) = false := by rcases hor3 with h | ⟨_, _, h⟩; exact h; rw [e6] at h; cases h
    have hna := HNA.out h5.1
    obtain ⟨hna0, hna1⟩ := hna
    have hsum := h5.2
    have hw : IntKind.i64.wrap (n + na) = n + na := by rw [IntKind.wrap_i64]; omega
    clear h1 h2 h3 h4 h5 hor3
    rcases hor1 with e1 | ⟨e1, e2⟩
    all_goals
      go_wp2_with fail
      have RZ := Lib.hid (blk_put4 RB1.out (.int .i64 pa) (.string ⟨#[]⟩) (.int .i64 (n + na)) (.slice Aa la ca))
      have BZ := Lib.hid (below_put4A HB1.out (by rw [HBXE.out]; omega : w.heap.size ≤ BX + 1) (.int .i64 pa) (.string ⟨#[]⟩) (.int .i64 (n + na)) (.slice Aa la ca))
      generalize ((((w1.setCell ⟨BX + 1, 0, none⟩ (.int .i64 pa)).setCell ⟨BX + 1, 1, none⟩ (.string ⟨#[]⟩)).setCell ⟨BX + 1, 2, none⟩ (.int .i64 (n + na))).setCell ⟨BX + 1, 3, none⟩ (.slice Aa la ca)) = wz at *
      have q1 := RZ.out.cell (j := 0) rfl
      have q2 := RZ.out.cell (j := 1) rfl
      have q3 := RZ.out.cell (j := 2) rfl
      have q4 := RZ.out.cell (j := 3) rfl
      refine bodyPost_ret (v := .tuple #[.agg #[.int .i64 pa, .string ⟨#[]⟩, .int .i64 (n + na), .slice Aa la ca], .bool true]) (by simp [results, Tryd.results39, go_sem, q1, q2, q3, q4]) rfl ?_
      exact rulePost_mk (y := AskT.mk pa [] (n + na) a.X) (A := Aa) (c := ca) (by rw [HTW.out]; rfl) (by rw [HTW.out]; rfl) (HVW.out _ _) rfl (askP_X _ _ _ (rule_keep HPA.out BZ.out)) BZ.out
  · have HTW : Hid (walkA k n a = none) := Lib.hid (by rw [HTD.out, if_neg h1, if_neg h2, if_neg h3, if_neg h4, if_neg h5])
    have hor4 : (ka == pa) = false ∨ ((ka == pa) = true ∧ ¬ n + na ≤ 100 ∧ 0 ≤ na ∧ na ≤ 100) := by
      by_cases h : ka = pa
      · exact .inr ⟨by simp [h], fun e => h5 ⟨h, e⟩, (HNA.out h).1, (HNA.out h).2⟩
      · exact .inl (by simp [h])
    have hor5 : (k == wh) = false ∨ ((k == wh) = true ∧ (ka == pa) = false) := by rcases hor3 with h | ⟨h, _, h'⟩; exact .inl h; exact .inr ⟨h, h'⟩
    clear h1 h2 h3 h4 h5 hor3
    rcases hor4 with e6 | ⟨e6, hs1, hna0, hna1⟩
    · rcases hor1 with e1 | ⟨e1, e2⟩ <;> rcases hor5 with e4 | ⟨e4, _⟩
      all_goals
        go_wp2_with fail
        have RZ := Lib.hid (blk_put4 RB1.out (.int .i64 k) (.string bs) (.int .i64 n) (.slice (some ⟨b0, off, none⟩) 1 c))
        have BZ := Lib.hid (below_put4A HB1.out (by rw [HBXE.out]; omega : w.heap.size ≤ BX + 1) (.int .i64 k) (.string bs) (.int .i64 n) (.slice (some ⟨b0, off, none⟩) 1 c))
        generalize ((((w1.setCell ⟨BX + 1, 0, none⟩ (.int .i64 k)).setCell ⟨BX + 1, 1, none⟩ (.string bs)).setCell ⟨BX + 1, 2, none⟩ (.int .i64 n)).setCell ⟨BX + 1, 3, none⟩ (.slice (some ⟨b0, off, none⟩) 1 c)) = wz at *
        have q1 := RZ.out.cell (j := 0) rfl
        have q2 := RZ.out.cell (j := 1) rfl
        have q3 := RZ.out.cell (j := 2) rfl
        have q4 := RZ.out.cell (j := 3) rfl
        refine bodyPost_ret (v := .tuple #[.agg #[.int .i64 k, .string bs, .int .i64 n, .slice (some ⟨b0, off, none⟩) 1 c], .bool false]) (by simp [results, Tryd.results39, go_sem, q1, q2, q3, q4]) rfl ?_
        exact rulePost_mk (y := AskT.mk k s n [a]) (A := some ⟨b0, off, none⟩) (c := c) (by rw [HTW.out]; rfl) (by rw [HTW.out]; rfl) HVX.out rfl (rule_keep HPX.out BZ.out) BZ.out
    · have hw : IntKind.i64.wrap (n + na) = n + na := by rw [IntKind.wrap_i64]; omega
      have e4 : (k == wh) = false := by rcases hor5 with h | ⟨_, h⟩; exact h; rw [e6] at h; cases h
      clear hor5
      rcases hor1 with e1 | ⟨e1, e2⟩
      all_goals
        go_wp2_with fail
        have RZ := Lib.hid (blk_put4 RB1.out (.int .i64 k) (.string bs) (.int .i64 n) (.slice (some ⟨b0, off, none⟩) 1 c))
        have BZ := Lib.hid (below_put4A HB1.out (by rw [HBXE.out]; omega : w.heap.size ≤ BX + 1) (.int .i64 k) (.string bs) (.int .i64 n) (.slice (some ⟨b0, off, none⟩) 1 c))
        generalize ((((w1.setCell ⟨BX + 1, 0, none⟩ (.int .i64 k)).setCell ⟨BX + 1, 1, none⟩ (.string bs)).setCell ⟨BX + 1, 2, none⟩ (.int .i64 n)).setCell ⟨BX + 1, 3, none⟩ (.slice (some ⟨b0, off, none⟩) 1 c)) = wz at *
        have q1 := RZ.out.cell (j := 0) rfl
        have q2 := RZ.out.cell (j := 1) rfl
        have q3 := RZ.out.cell (j := 2) rfl
        have q4 := RZ.out.cell (j := 3) rfl
        refine bodyPost_ret (v := .tuple #[.agg #[.int .i64 k, .string bs, .int .i64 n, .slice (some ⟨b0, off, none⟩) 1 c], .bool false]) (by simp [results, Tryd.results39, go_sem, q1, q2, q3, q4]) rfl ?_
        exact rulePost_mk (y := AskT.mk k s n [a]) (A := some ⟨b0, off, none⟩) (c := c) (by rw [HTW.out]; rfl) (by rw [HTW.out]; rfl) HVX.out rfl (rule_keep HPX.out BZ.out) BZ.out
end Go.Proofs.YtcodncddaemhlaaDoor
