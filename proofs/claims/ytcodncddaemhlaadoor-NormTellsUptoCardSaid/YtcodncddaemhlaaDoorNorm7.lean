/- Contract: norm.rule. Asks that are right, of at most 60 parts. -/
import Derived.Test.YtcodncddaemhlaaDoorNorm5
namespace Go.Proofs.YtcodncddaemhlaaDoor
open Go.RowKit

theorem cell_drewA {w : World} {p : Addr} {v : Value} (h : w.cell? p = some v) : w.drew.cell? p = some v := h
set_option maxRecDepth 100000 in
set_option maxHeartbeats 4000000 in
theorem nRule_two (k : Int) (s : List UInt8) (n : Int) (a b : AskT) (A : Option Addr) (c : Nat) (w : World) (ok : Nat → Prop) (hA : AskP ok w (.mk k s n [a, b]) A c) (hok : okA (.mk k s n [a, b])) (hs : sizeA (.mk k s n [a, b]) ≤ 60) (hT : NTab w) (hk : k = 5 ∨ k = 6) :
    Calls Tryd.prog 26 #[askV (.mk k s n [a, b]) A c] w (RulePost ok (.mk k s n [a, b]) (ruledA (.mk k s n [a, b])) w) := by
  have HPX := Lib.hid hA
  have HNT := Lib.hid hT
  have HOK := Lib.hid hok
  have HSZ := Lib.hid hs
  obtain ⟨y, hy⟩ := boxA_new w (.int .i64 k) (.string ⟨s.toArray⟩) (.int .i64 n) (.slice A 2 c) 24
  obtain ⟨r, hr⟩ := boxA_new (w.alloc (.cells #[.int .i64 k, .string ⟨s.toArray⟩, .int .i64 n, .slice A 2 c] 24)) (.int .i64 0) (.string ⟨#[]⟩) (.int .i64 0) (.slice none 0 0) 24
  have Y := Lib.hid (y.below hr)
  have hbr := Blk.new (w.alloc (.cells #[.int .i64 k, .string ⟨s.toArray⟩, .int .i64 n, .slice A 2 c] 24)) #[.int .i64 0, .string ⟨#[]⟩, .int .i64 0, .slice none 0 0] 24
  rw [show (w.alloc (.cells #[.int .i64 k, .string ⟨s.toArray⟩, .int .i64 n, .slice A 2 c] 24)).heap.size = w.heap.size + 1 by simp] at hbr
  have RB := Lib.hid hbr
  have HY := Lib.hid (below_newA hy hr)
  have HZ0 : Hid (((w.alloc (.cells #[.int .i64 k, .string ⟨s.toArray⟩, .int .i64 n, .slice A 2 c] 24)).alloc (.cells #[.int .i64 0, .string ⟨#[]⟩, .int .i64 0, .slice none 0 0] 24)).heap.size = w.heap.size + 2) := Lib.hid (by simp)
  clear hA hok hs hT y hy r hr hbr
  have HVS := Lib.hid (show askV (.mk k s n [a, b]) A c = .agg #[.int .i64 k, .string ⟨s.toArray⟩, .int .i64 n, .slice A 2 c] from rfl)
  rw [HVS.out]
  generalize hbs : (⟨s.toArray⟩ : ByteArray) = bs at *
  have HBS := Lib.hid hbs
  clear hbs
  go_enter Tryd.func26, Tryd.ntmps26
  go_upto_region 1 with fail
  generalize (w.alloc (.cells #[.int .i64 k, .string bs, .int .i64 n, .slice A 2 c] 24)).alloc (.cells #[.int .i64 0, .string ⟨#[]⟩, .int .i64 0, .slice none 0 0] 24) = w0 at *
  obtain ⟨BX, hBX⟩ : ∃ BX, BX = w.heap.size := ⟨_, rfl⟩
  have HBXE := Lib.hid hBX
  rw [← hBX] at Y RB ⊢
  clear hBX
  have HPW := Lib.hid (AskP.mono (ok' := fun j => ok j ∧ j < w.heap.size) (fun _ h1 h2 => ⟨h1, h2⟩) _ _ _ HPX.out)
  have HP0 := Lib.hid (askP_below HPW.out HY.out)
  have HN0 := Lib.hid (HNT.out.below HY.out)
  have HRU : Hid (ruledA (.mk k s n [a, b]) = twoA k a b) := Lib.hid (by rw [ruledA_mk, if_pos hk]; rfl)
  have CT := Lib.hid (nTwo_any k s n a b A c w0 (fun j => ok j ∧ j < w.heap.size) HP0.out (ok_kids HOK.out a (by simp)) (ok_kids HOK.out b (by simp)) (by have := sz2 k s n a b; have := HSZ.out; omega) (by have := sz2 k s n a b; have := HSZ.out; omega) HN0.out)
  rw [HVS.out] at CT
  obtain ⟨y1, y2, y3, y4⟩ := Y.out
  unfold RulePost at CT
  generalize hyv : (twoA k a b).getD (.mk k s n [a, b]) = yv at *
  generalize hbb : (twoA k a b).isSome = bb at *
  have HYV : Hid ((ruledA (.mk k s n [a, b])).getD (.mk k s n [a, b]) = yv) := Lib.hid (by rw [HRU.out]; exact hyv)
  have HBB : Hid ((ruledA (.mk k s n [a, b])).isSome = bb) := Lib.hid (by rw [HRU.out]; exact hbb)
  clear hyv hbb HRU
  have HVY : ∀ A c, askV yv A c = .agg #[.int .i64 yv.kind, .string ⟨yv.name.toArray⟩, .int .i64 yv.n, .slice A yv.X.length c] := fun _ _ => rfl
  have HVY := Lib.hid HVY
  unfold askV at CT
  generalize hyn : (⟨yv.name.toArray⟩ : ByteArray) = yn at *
  clear hyn
  generalize yv.kind = yk at *
  generalize yv.n = ynn at *
  generalize yv.X.length = yl at *
  rcases hk with rfl | rfl
  all_goals
    go_wp2_with fail
    refine CT.out.mono ?_
    rintro e w1 ⟨A1, c1, rfl, hat1, hb1⟩
    have HAT1 := Lib.hid hat1
    have HB1 := Lib.hid (below_newA HY.out hb1)
    have RB1 := Lib.hid (RB.out.below hb1 RB.out.lt)
    clear hat1 hb1 y1 y2 y3 y4
    have rf := RB1.out.free
    have r1 := RB1.out.cell (j := 0) rfl
    have r2 := RB1.out.cell (j := 1) rfl
    have r3 := RB1.out.cell (j := 2) rfl
    have r4 := RB1.out.cell (j := 3) rfl
    go_wp2_with fail
    have HPZ := Lib.hid (AskP.mono (ok' := fun k => ok k ∨ w.heap.size ≤ k) (fun k h _ => h.elim (fun h => .inl h.1) (fun h => .inr (by have := HZ0.out; omega))) _ _ _ (HAT1.out.put4 (b := BX + 1) (by rintro (h | h); have := h.2; have := HBXE.out; omega; have := HZ0.out; have := HBXE.out; omega) (.int .i64 yk) (.string yn) (.int .i64 ynn) (.slice A1 yl c1)))
    have RZ := Lib.hid (blk_put4 RB1.out (.int .i64 yk) (.string yn) (.int .i64 ynn) (.slice A1 yl c1))
    have BZ := Lib.hid (below_put4A HB1.out (by rw [HBXE.out]; omega : w.heap.size ≤ BX + 1) (.int .i64 yk) (.string yn) (.int .i64 ynn) (.slice A1 yl c1))
    generalize ((((w1.setCell ⟨BX + 1, 0, none⟩ (.int .i64 yk)).setCell ⟨BX + 1, 1, none⟩ (.string yn)).setCell ⟨BX + 1, 2, none⟩ (.int .i64 ynn)).setCell ⟨BX + 1, 3, none⟩ (.slice A1 yl c1)) = wz at *
    have q1 := RZ.out.cell (j := 0) rfl
    have q2 := RZ.out.cell (j := 1) rfl
    have q3 := RZ.out.cell (j := 2) rfl
    have q4 := RZ.out.cell (j := 3) rfl
    refine bodyPost_ret (v := .tuple #[.agg #[.int .i64 yk, .string yn, .int .i64 ynn, .slice A1 yl c1], .bool bb]) (by simp [results, Tryd.results26, go_sem, q1, q2, q3, q4]) rfl ?_
    exact rulePost_mk (y := yv) (A := A1) (c := c1) HYV.out HBB.out (HVY.out _ _) rfl HPZ.out BZ.out
set_option maxRecDepth 100000 in
set_option maxHeartbeats 4000000 in
theorem nRule_walk (k : Int) (s : List UInt8) (n : Int) (a : AskT) (A : Option Addr) (c : Nat) (w : World) (ok : Nat → Prop) (hA : AskP ok w (.mk k s n [a]) A c) (hok : okA (.mk k s n [a])) (hs : sizeA (.mk k s n [a]) ≤ 60) (hT : NTab w) (hk : k = 8 ∨ k = 9 ∨ k = 10 ∨ k = 11) (wh pa : Int) (hwh : wh = wholeK k) (hpa : pa = wholeK k + 2) :
    Calls Tryd.prog 26 #[askV (.mk k s n [a]) A c] w (RulePost ok (.mk k s n [a]) (ruledA (.mk k s n [a])) w) := by
  have HPX := Lib.hid hA
  have HNT := Lib.hid hT
  have HOK := Lib.hid hok
  have HSZ := Lib.hid hs
  obtain ⟨y, hy⟩ := boxA_new w (.int .i64 k) (.string ⟨s.toArray⟩) (.int .i64 n) (.slice A 1 c) 24
  obtain ⟨r, hr⟩ := boxA_new (w.alloc (.cells #[.int .i64 k, .string ⟨s.toArray⟩, .int .i64 n, .slice A 1 c] 24)) (.int .i64 0) (.string ⟨#[]⟩) (.int .i64 0) (.slice none 0 0) 24
  have Y := Lib.hid (y.below hr)
  have hbr := Blk.new (w.alloc (.cells #[.int .i64 k, .string ⟨s.toArray⟩, .int .i64 n, .slice A 1 c] 24)) #[.int .i64 0, .string ⟨#[]⟩, .int .i64 0, .slice none 0 0] 24
  rw [show (w.alloc (.cells #[.int .i64 k, .string ⟨s.toArray⟩, .int .i64 n, .slice A 1 c] 24)).heap.size = w.heap.size + 1 by simp] at hbr
  have RB := Lib.hid hbr
  have HY := Lib.hid (below_newA hy hr)
  have HZ0 : Hid (((w.alloc (.cells #[.int .i64 k, .string ⟨s.toArray⟩, .int .i64 n, .slice A 1 c] 24)).alloc (.cells #[.int .i64 0, .string ⟨#[]⟩, .int .i64 0, .slice none 0 0] 24)).heap.size = w.heap.size + 2) := Lib.hid (by simp)
  clear hA hok hs hT y hy r hr hbr
  have HVS := Lib.hid (show askV (.mk k s n [a]) A c = .agg #[.int .i64 k, .string ⟨s.toArray⟩, .int .i64 n, .slice A 1 c] from rfl)
  rw [HVS.out]
  generalize hbs : (⟨s.toArray⟩ : ByteArray) = bs at *
  have HBS := Lib.hid hbs
  clear hbs
  go_enter Tryd.func26, Tryd.ntmps26
  go_upto_region 1 with fail
  generalize (w.alloc (.cells #[.int .i64 k, .string bs, .int .i64 n, .slice A 1 c] 24)).alloc (.cells #[.int .i64 0, .string ⟨#[]⟩, .int .i64 0, .slice none 0 0] 24) = w0 at *
  obtain ⟨BX, hBX⟩ : ∃ BX, BX = w.heap.size := ⟨_, rfl⟩
  have HBXE := Lib.hid hBX
  rw [← hBX] at Y RB ⊢
  clear hBX
  have HPW := Lib.hid (AskP.mono (ok' := fun j => ok j ∧ j < w.heap.size) (fun _ h1 h2 => ⟨h1, h2⟩) _ _ _ HPX.out)
  have HP0 := Lib.hid (askP_below HPW.out HY.out)
  have HN0 := Lib.hid (HNT.out.below HY.out)
  have HRU : Hid (ruledA (.mk k s n [a]) = walkA k n a) := Lib.hid (by rw [ruledA_mk, if_neg (by omega), if_pos hk]; rfl)
  have CT := Lib.hid (nWalks_any k s n a A c w0 wh pa (fun j => ok j ∧ j < w.heap.size) HP0.out HOK.out hk hwh hpa)
  rw [HVS.out] at CT
  obtain ⟨y1, y2, y3, y4⟩ := Y.out
  unfold RulePost at CT
  generalize hyv : (walkA k n a).getD (.mk k s n [a]) = yv at *
  generalize hbb : (walkA k n a).isSome = bb at *
  have HYV : Hid ((ruledA (.mk k s n [a])).getD (.mk k s n [a]) = yv) := Lib.hid (by rw [HRU.out]; exact hyv)
  have HBB : Hid ((ruledA (.mk k s n [a])).isSome = bb) := Lib.hid (by rw [HRU.out]; exact hbb)
  clear hyv hbb HRU
  have HVY : ∀ A c, askV yv A c = .agg #[.int .i64 yv.kind, .string ⟨yv.name.toArray⟩, .int .i64 yv.n, .slice A yv.X.length c] := fun _ _ => rfl
  have HVY := Lib.hid HVY
  unfold askV at CT
  generalize hyn : (⟨yv.name.toArray⟩ : ByteArray) = yn at *
  clear hyn
  generalize yv.kind = yk at *
  generalize yv.n = ynn at *
  generalize yv.X.length = yl at *
  rcases hk with rfl | rfl | rfl | rfl <;> (first | (obtain rfl : wh = 8 := hwh) | (obtain rfl : wh = 9 := hwh)) <;> (first | (obtain rfl : pa = 10 := hpa) | (obtain rfl : pa = 11 := hpa))
  all_goals
    go_wp2_with fail
    refine CT.out.mono ?_
    rintro e w1 ⟨A1, c1, rfl, hat1, hb1⟩
    have HAT1 := Lib.hid hat1
    have HB1 := Lib.hid (below_newA HY.out hb1)
    have RB1 := Lib.hid (RB.out.below hb1 RB.out.lt)
    clear hat1 hb1 y1 y2 y3 y4
    have rf := RB1.out.free
    have r1 := RB1.out.cell (j := 0) rfl
    have r2 := RB1.out.cell (j := 1) rfl
    have r3 := RB1.out.cell (j := 2) rfl
    have r4 := RB1.out.cell (j := 3) rfl
    go_wp2_with fail
    have HPZ := Lib.hid (AskP.mono (ok' := fun k => ok k ∨ w.heap.size ≤ k) (fun k h _ => h.elim (fun h => .inl h.1) (fun h => .inr (by have := HZ0.out; omega))) _ _ _ (HAT1.out.put4 (b := BX + 1) (by rintro (h | h); have := h.2; have := HBXE.out; omega; have := HZ0.out; have := HBXE.out; omega) (.int .i64 yk) (.string yn) (.int .i64 ynn) (.slice A1 yl c1)))
    have RZ := Lib.hid (blk_put4 RB1.out (.int .i64 yk) (.string yn) (.int .i64 ynn) (.slice A1 yl c1))
    have BZ := Lib.hid (below_put4A HB1.out (by rw [HBXE.out]; omega : w.heap.size ≤ BX + 1) (.int .i64 yk) (.string yn) (.int .i64 ynn) (.slice A1 yl c1))
    generalize ((((w1.setCell ⟨BX + 1, 0, none⟩ (.int .i64 yk)).setCell ⟨BX + 1, 1, none⟩ (.string yn)).setCell ⟨BX + 1, 2, none⟩ (.int .i64 ynn)).setCell ⟨BX + 1, 3, none⟩ (.slice A1 yl c1)) = wz at *
    have q1 := RZ.out.cell (j := 0) rfl
    have q2 := RZ.out.cell (j := 1) rfl
    have q3 := RZ.out.cell (j := 2) rfl
    have q4 := RZ.out.cell (j := 3) rfl
    refine bodyPost_ret (v := .tuple #[.agg #[.int .i64 yk, .string yn, .int .i64 ynn, .slice A1 yl c1], .bool bb]) (by simp [results, Tryd.results26, go_sem, q1, q2, q3, q4]) rfl ?_
    exact rulePost_mk (y := yv) (A := A1) (c := c1) HYV.out HBB.out (HVY.out _ _) rfl HPZ.out BZ.out
set_option maxRecDepth 100000 in
set_option maxHeartbeats 4000000 in
theorem nRule_none (k : Int) (s : List UInt8) (n : Int) (X : List AskT) (A : Option Addr) (c : Nat) (w : World) (ok : Nat → Prop) (hA : AskP ok w (.mk k s n X) A c) (hok : okA (.mk k s n X)) (hs : sizeA (.mk k s n X) ≤ 60) (hT : NTab w) (hk : k = 1 ∨ k = 2 ∨ k = 3 ∨ k = 4 ∨ k = 12 ∨ k = 13) :
    Calls Tryd.prog 26 #[askV (.mk k s n X) A c] w (RulePost ok (.mk k s n X) (ruledA (.mk k s n X)) w) := by
  have HPX := Lib.hid hA
  have HNT := Lib.hid hT
  have HOK := Lib.hid hok
  have HSZ := Lib.hid hs
  obtain ⟨y, hy⟩ := boxA_new w (.int .i64 k) (.string ⟨s.toArray⟩) (.int .i64 n) (.slice A X.length c) 24
  obtain ⟨r, hr⟩ := boxA_new (w.alloc (.cells #[.int .i64 k, .string ⟨s.toArray⟩, .int .i64 n, .slice A X.length c] 24)) (.int .i64 0) (.string ⟨#[]⟩) (.int .i64 0) (.slice none 0 0) 24
  have Y := Lib.hid (y.below hr)
  have hbr := Blk.new (w.alloc (.cells #[.int .i64 k, .string ⟨s.toArray⟩, .int .i64 n, .slice A X.length c] 24)) #[.int .i64 0, .string ⟨#[]⟩, .int .i64 0, .slice none 0 0] 24
  rw [show (w.alloc (.cells #[.int .i64 k, .string ⟨s.toArray⟩, .int .i64 n, .slice A X.length c] 24)).heap.size = w.heap.size + 1 by simp] at hbr
  have RB := Lib.hid hbr
  have HY := Lib.hid (below_newA hy hr)
  have HZ0 : Hid (((w.alloc (.cells #[.int .i64 k, .string ⟨s.toArray⟩, .int .i64 n, .slice A X.length c] 24)).alloc (.cells #[.int .i64 0, .string ⟨#[]⟩, .int .i64 0, .slice none 0 0] 24)).heap.size = w.heap.size + 2) := Lib.hid (by simp)
  clear hA hok hs hT y hy r hr hbr
  have HVS := Lib.hid (show askV (.mk k s n X) A c = .agg #[.int .i64 k, .string ⟨s.toArray⟩, .int .i64 n, .slice A X.length c] from rfl)
  rw [HVS.out]
  generalize hbs : (⟨s.toArray⟩ : ByteArray) = bs at *
  have HBS := Lib.hid hbs
  clear hbs
  go_enter Tryd.func26, Tryd.ntmps26
  go_upto_region 1 with fail
  generalize (w.alloc (.cells #[.int .i64 k, .string bs, .int .i64 n, .slice A X.length c] 24)).alloc (.cells #[.int .i64 0, .string ⟨#[]⟩, .int .i64 0, .slice none 0 0] 24) = w0 at *
  obtain ⟨BX, hBX⟩ : ∃ BX, BX = w.heap.size := ⟨_, rfl⟩
  have HBXE := Lib.hid hBX
  rw [← hBX] at Y RB ⊢
  clear hBX
  have HPW := Lib.hid (AskP.mono (ok' := fun j => ok j ∧ j < w.heap.size) (fun _ h1 h2 => ⟨h1, h2⟩) _ _ _ HPX.out)
  have HP0 := Lib.hid (askP_below HPW.out HY.out)
  have HN0 := Lib.hid (HNT.out.below HY.out)
  have HTW : Hid (ruledA (.mk k s n X) = none) := Lib.hid (by rw [ruledA_mk, if_neg (by omega), if_neg (by omega), if_neg (by omega), if_neg (by omega)])
  obtain ⟨y1, y2, y3, y4⟩ := Y.out
  have rf := RB.out.free
  have r1 := RB.out.cell (j := 0) rfl
  have r2 := RB.out.cell (j := 1) rfl
  have r3 := RB.out.cell (j := 2) rfl
  have r4 := RB.out.cell (j := 3) rfl
  rcases hk with rfl | rfl | rfl | rfl | rfl | rfl
  · go_wp2_with fail
    have RZ := Lib.hid (blk_put4 RB.out (.int .i64 1) (.string bs) (.int .i64 n) (.slice A X.length c))
    have BZ := Lib.hid (below_put4A HY.out (by rw [HBXE.out]; omega : w.heap.size ≤ BX + 1) (.int .i64 1) (.string bs) (.int .i64 n) (.slice A X.length c))
    generalize ((((w0.setCell ⟨BX + 1, 0, none⟩ (.int .i64 1)).setCell ⟨BX + 1, 1, none⟩ (.string bs)).setCell ⟨BX + 1, 2, none⟩ (.int .i64 n)).setCell ⟨BX + 1, 3, none⟩ (.slice A X.length c)) = wz at *
    have q1 := RZ.out.cell (j := 0) rfl
    have q2 := RZ.out.cell (j := 1) rfl
    have q3 := RZ.out.cell (j := 2) rfl
    have q4 := RZ.out.cell (j := 3) rfl
    refine bodyPost_ret (v := .tuple #[.agg #[.int .i64 1, .string bs, .int .i64 n, .slice A X.length c], .bool false]) (by simp [results, Tryd.results26, go_sem, q1, q2, q3, q4]) rfl ?_
    exact rulePost_mk (y := AskT.mk 1 s n X) (A := A) (c := c) (by rw [HTW.out]; rfl) (by rw [HTW.out]; rfl) HVS.out rfl (rule_keep HPX.out BZ.out) BZ.out
  · go_wp2_with fail
    have RZ := Lib.hid (blk_put4 RB.out (.int .i64 2) (.string bs) (.int .i64 n) (.slice A X.length c))
    have BZ := Lib.hid (below_put4A HY.out (by rw [HBXE.out]; omega : w.heap.size ≤ BX + 1) (.int .i64 2) (.string bs) (.int .i64 n) (.slice A X.length c))
    generalize ((((w0.setCell ⟨BX + 1, 0, none⟩ (.int .i64 2)).setCell ⟨BX + 1, 1, none⟩ (.string bs)).setCell ⟨BX + 1, 2, none⟩ (.int .i64 n)).setCell ⟨BX + 1, 3, none⟩ (.slice A X.length c)) = wz at *
    have q1 := RZ.out.cell (j := 0) rfl
    have q2 := RZ.out.cell (j := 1) rfl
    have q3 := RZ.out.cell (j := 2) rfl
    have q4 := RZ.out.cell (j := 3) rfl
    refine bodyPost_ret (v := .tuple #[.agg #[.int .i64 2, .string bs, .int .i64 n, .slice A X.length c], .bool false]) (by simp [results, Tryd.results26, go_sem, q1, q2, q3, q4]) rfl ?_
    exact rulePost_mk (y := AskT.mk 2 s n X) (A := A) (c := c) (by rw [HTW.out]; rfl) (by rw [HTW.out]; rfl) HVS.out rfl (rule_keep HPX.out BZ.out) BZ.out
  · go_wp2_with fail
    have RZ := Lib.hid (blk_put4 RB.out (.int .i64 3) (.string bs) (.int .i64 n) (.slice A X.length c))
    have BZ := Lib.hid (below_put4A HY.out (by rw [HBXE.out]; omega : w.heap.size ≤ BX + 1) (.int .i64 3) (.string bs) (.int .i64 n) (.slice A X.length c))
    generalize ((((w0.setCell ⟨BX + 1, 0, none⟩ (.int .i64 3)).setCell ⟨BX + 1, 1, none⟩ (.string bs)).setCell ⟨BX + 1, 2, none⟩ (.int .i64 n)).setCell ⟨BX + 1, 3, none⟩ (.slice A X.length c)) = wz at *
    have q1 := RZ.out.cell (j := 0) rfl
    have q2 := RZ.out.cell (j := 1) rfl
    have q3 := RZ.out.cell (j := 2) rfl
    have q4 := RZ.out.cell (j := 3) rfl
    refine bodyPost_ret (v := .tuple #[.agg #[.int .i64 3, .string bs, .int .i64 n, .slice A X.length c], .bool false]) (by simp [results, Tryd.results26, go_sem, q1, q2, q3, q4]) rfl ?_
    exact rulePost_mk (y := AskT.mk 3 s n X) (A := A) (c := c) (by rw [HTW.out]; rfl) (by rw [HTW.out]; rfl) HVS.out rfl (rule_keep HPX.out BZ.out) BZ.out
  · go_wp2_with fail
    have RZ := Lib.hid (blk_put4 RB.out (.int .i64 4) (.string bs) (.int .i64 n) (.slice A X.length c))
    have BZ := Lib.hid (below_put4A HY.out (by rw [HBXE.out]; omega : w.heap.size ≤ BX + 1) (.int .i64 4) (.string bs) (.int .i64 n) (.slice A X.length c))
    generalize ((((w0.setCell ⟨BX + 1, 0, none⟩ (.int .i64 4)).setCell ⟨BX + 1, 1, none⟩ (.string bs)).setCell ⟨BX + 1, 2, none⟩ (.int .i64 n)).setCell ⟨BX + 1, 3, none⟩ (.slice A X.length c)) = wz at *
    have q1 := RZ.out.cell (j := 0) rfl
    have q2 := RZ.out.cell (j := 1) rfl
    have q3 := RZ.out.cell (j := 2) rfl
    have q4 := RZ.out.cell (j := 3) rfl
    refine bodyPost_ret (v := .tuple #[.agg #[.int .i64 4, .string bs, .int .i64 n, .slice A X.length c], .bool false]) (by simp [results, Tryd.results26, go_sem, q1, q2, q3, q4]) rfl ?_
    exact rulePost_mk (y := AskT.mk 4 s n X) (A := A) (c := c) (by rw [HTW.out]; rfl) (by rw [HTW.out]; rfl) HVS.out rfl (rule_keep HPX.out BZ.out) BZ.out
  · go_wp2_with fail
    have RZ := Lib.hid (blk_put4 RB.out (.int .i64 12) (.string bs) (.int .i64 n) (.slice A X.length c))
    have BZ := Lib.hid (below_put4A HY.out (by rw [HBXE.out]; omega : w.heap.size ≤ BX + 1) (.int .i64 12) (.string bs) (.int .i64 n) (.slice A X.length c))
    generalize ((((w0.setCell ⟨BX + 1, 0, none⟩ (.int .i64 12)).setCell ⟨BX + 1, 1, none⟩ (.string bs)).setCell ⟨BX + 1, 2, none⟩ (.int .i64 n)).setCell ⟨BX + 1, 3, none⟩ (.slice A X.length c)) = wz at *
    have q1 := RZ.out.cell (j := 0) rfl
    have q2 := RZ.out.cell (j := 1) rfl
    have q3 := RZ.out.cell (j := 2) rfl
    have q4 := RZ.out.cell (j := 3) rfl
    refine bodyPost_ret (v := .tuple #[.agg #[.int .i64 12, .string bs, .int .i64 n, .slice A X.length c], .bool false]) (by simp [results, Tryd.results26, go_sem, q1, q2, q3, q4]) rfl ?_
    exact rulePost_mk (y := AskT.mk 12 s n X) (A := A) (c := c) (by rw [HTW.out]; rfl) (by rw [HTW.out]; rfl) HVS.out rfl (rule_keep HPX.out BZ.out) BZ.out
  · go_wp2_with fail
    have RZ := Lib.hid (blk_put4 RB.out (.int .i64 13) (.string bs) (.int .i64 n) (.slice A X.length c))
    have BZ := Lib.hid (below_put4A HY.out (by rw [HBXE.out]; omega : w.heap.size ≤ BX + 1) (.int .i64 13) (.string bs) (.int .i64 n) (.slice A X.length c))
    generalize ((((w0.setCell ⟨BX + 1, 0, none⟩ (.int .i64 13)).setCell ⟨BX + 1, 1, none⟩ (.string bs)).setCell ⟨BX + 1, 2, none⟩ (.int .i64 n)).setCell ⟨BX + 1, 3, none⟩ (.slice A X.length c)) = wz at *
    have q1 := RZ.out.cell (j := 0) rfl
    have q2 := RZ.out.cell (j := 1) rfl
    have q3 := RZ.out.cell (j := 2) rfl
    have q4 := RZ.out.cell (j := 3) rfl
    refine bodyPost_ret (v := .tuple #[.agg #[.int .i64 13, .string bs, .int .i64 n, .slice A X.length c], .bool false]) (by simp [results, Tryd.results26, go_sem, q1, q2, q3, q4]) rfl ?_
    exact rulePost_mk (y := AskT.mk 13 s n X) (A := A) (c := c) (by rw [HTW.out]; rfl) (by rw [HTW.out]; rfl) HVS.out rfl (rule_keep HPX.out BZ.out) BZ.out
set_option maxRecDepth 100000 in
set_option maxHeartbeats 4000000 in
theorem nRule_same (k : Int) (s : List UInt8) (n : Int) (a : AskT) (A : Option Addr) (c : Nat) (w : World) (ok : Nat → Prop) (hA : AskP ok w (.mk k s n [a]) A c) (hok : okA (.mk k s n [a])) (hs : sizeA (.mk k s n [a]) ≤ 60) (hT : NTab w) (hk : k = 14 ∨ k = 15) :
    Calls Tryd.prog 26 #[askV (.mk k s n [a]) A c] w (RulePost ok (.mk k s n [a]) (ruledA (.mk k s n [a])) w) := by
  have HPX := Lib.hid hA
  have HNT := Lib.hid hT
  have HOK := Lib.hid hok
  have HSZ := Lib.hid hs
  obtain ⟨y, hy⟩ := boxA_new w (.int .i64 k) (.string ⟨s.toArray⟩) (.int .i64 n) (.slice A 1 c) 24
  obtain ⟨r, hr⟩ := boxA_new (w.alloc (.cells #[.int .i64 k, .string ⟨s.toArray⟩, .int .i64 n, .slice A 1 c] 24)) (.int .i64 0) (.string ⟨#[]⟩) (.int .i64 0) (.slice none 0 0) 24
  have Y := Lib.hid (y.below hr)
  have hbr := Blk.new (w.alloc (.cells #[.int .i64 k, .string ⟨s.toArray⟩, .int .i64 n, .slice A 1 c] 24)) #[.int .i64 0, .string ⟨#[]⟩, .int .i64 0, .slice none 0 0] 24
  rw [show (w.alloc (.cells #[.int .i64 k, .string ⟨s.toArray⟩, .int .i64 n, .slice A 1 c] 24)).heap.size = w.heap.size + 1 by simp] at hbr
  have RB := Lib.hid hbr
  have HY := Lib.hid (below_newA hy hr)
  have HZ0 : Hid (((w.alloc (.cells #[.int .i64 k, .string ⟨s.toArray⟩, .int .i64 n, .slice A 1 c] 24)).alloc (.cells #[.int .i64 0, .string ⟨#[]⟩, .int .i64 0, .slice none 0 0] 24)).heap.size = w.heap.size + 2) := Lib.hid (by simp)
  clear hA hok hs hT y hy r hr hbr
  have HVS := Lib.hid (show askV (.mk k s n [a]) A c = .agg #[.int .i64 k, .string ⟨s.toArray⟩, .int .i64 n, .slice A 1 c] from rfl)
  rw [HVS.out]
  generalize hbs : (⟨s.toArray⟩ : ByteArray) = bs at *
  have HBS := Lib.hid hbs
  clear hbs
  go_enter Tryd.func26, Tryd.ntmps26
  go_upto_region 1 with fail
  generalize (w.alloc (.cells #[.int .i64 k, .string bs, .int .i64 n, .slice A 1 c] 24)).alloc (.cells #[.int .i64 0, .string ⟨#[]⟩, .int .i64 0, .slice none 0 0] 24) = w0 at *
  obtain ⟨BX, hBX⟩ : ∃ BX, BX = w.heap.size := ⟨_, rfl⟩
  have HBXE := Lib.hid hBX
  rw [← hBX] at Y RB ⊢
  clear hBX
  have HPW := Lib.hid (AskP.mono (ok' := fun j => ok j ∧ j < w.heap.size) (fun _ h1 h2 => ⟨h1, h2⟩) _ _ _ HPX.out)
  have HP0 := Lib.hid (askP_below HPW.out HY.out)
  have HN0 := Lib.hid (HNT.out.below HY.out)
  obtain ⟨b0, off, Aa, ca, hAe, p1, p2, p3, p4, hca⟩ := AskP.child HPX.out (i := 0) (x := a) rfl
  subst hAe
  replace p1 := cell_keptA p1 HY.out
  replace p2 := cell_keptA p2 HY.out
  replace p3 := cell_keptA p3 HY.out
  replace p4 := cell_keptA p4 HY.out
  simp only [Nat.zero_mul, Nat.add_zero] at p1 p2 p3 p4
  have HPA := Lib.hid hca
  clear hca
  have HVA : Hid (askV a Aa ca = .agg #[.int .i64 a.kind, .string ⟨a.name.toArray⟩, .int .i64 a.n, .slice Aa a.X.length ca]) := Lib.hid rfl
  have HRU : Hid (ruledA (.mk k s n [a]) = sameA k s n a) := Lib.hid (by rw [ruledA_mk, if_neg (by omega), if_neg (by omega), if_pos hk]; rfl)
  have HEN : Hid (((⟨a.name.toArray⟩ : ByteArray).toList == bs.toList) = decide (a.name = s)) := Lib.hid (by rw [← HBS.out]; exact eq_sv _ _)
  have HTD : Hid (sameA k s n a = if a.kind = k ∧ a.name = s ∧ a.n = n then some a else none) := Lib.hid rfl
  obtain ⟨u, hu⟩ := boxA_new w0 (.int .i64 a.kind) (.string ⟨a.name.toArray⟩) (.int .i64 a.n) (.slice Aa a.X.length ca) 24
  have U := Lib.hid u
  have Y1 := Lib.hid (Y.out.below hu)
  have RB1 := Lib.hid (RB.out.below hu RB.out.lt)
  have HB1 := Lib.hid (below_newA HY.out hu)
  clear u hu HP0 HPW HOK
  generalize hba : (⟨a.name.toArray⟩ : ByteArray) = ban at *
  clear hba
  generalize a.kind = ka at *
  generalize a.n = na at *
  generalize a.X.length = la at *
  obtain ⟨y1, y2, y3, y4⟩ := Y.out
  rcases hk with rfl | rfl
  all_goals
    go_upto_region 14 with fail
    generalize w0.alloc (.cells #[.int .i64 ka, .string ban, .int .i64 na, .slice Aa la ca] 24) = w1 at *
    clear y1 y2 y3 y4 p1 p2 p3 p4
    obtain ⟨x1, x2, x3, x4⟩ := U.out
    obtain ⟨y1, y2, y3, y4⟩ := Y1.out
    have rf := RB1.out.free
    have r1 := RB1.out.cell (j := 0) rfl
    have r2 := RB1.out.cell (j := 1) rfl
    have r3 := RB1.out.cell (j := 2) rfl
    have r4 := RB1.out.cell (j := 3) rfl
  · by_cases h : ka = 14 ∧ a.name = s ∧ na = n
    · have HTW : Hid (ruledA (.mk 14 s n [a]) = some a) := Lib.hid (by rw [HRU.out, HTD.out, if_pos h])
      have e1 : (ka == 14) = true := by simp [h.1]
      have e2 : (ban.toList == bs.toList) = true := by rw [HEN.out]; exact decide_eq_true h.2.1
      have e3 : (na == n) = true := by simp [h.2.2]
      clear h
      go_wp2_with fail
      have RZ := Lib.hid (blk_put4 RB1.out (.int .i64 ka) (.string ban) (.int .i64 na) (.slice Aa la ca))
      have BZ := Lib.hid (below_put4A HB1.out (by rw [HBXE.out]; omega : w.heap.size ≤ BX + 1) (.int .i64 ka) (.string ban) (.int .i64 na) (.slice Aa la ca))
      generalize ((((w1.setCell ⟨BX + 1, 0, none⟩ (.int .i64 ka)).setCell ⟨BX + 1, 1, none⟩ (.string ban)).setCell ⟨BX + 1, 2, none⟩ (.int .i64 na)).setCell ⟨BX + 1, 3, none⟩ (.slice Aa la ca)) = wz at *
      have q1 := RZ.out.cell (j := 0) rfl
      have q2 := RZ.out.cell (j := 1) rfl
      have q3 := RZ.out.cell (j := 2) rfl
      have q4 := RZ.out.cell (j := 3) rfl
      refine bodyPost_ret (v := .tuple #[.agg #[.int .i64 ka, .string ban, .int .i64 na, .slice Aa la ca], .bool true]) (by simp [results, Tryd.results26, go_sem, q1, q2, q3, q4]) rfl ?_
      exact rulePost_mk (y := a) (A := Aa) (c := ca) (by rw [HTW.out]; rfl) (by rw [HTW.out]; rfl) HVA.out rfl (rule_keep HPA.out BZ.out) BZ.out
    · have HTW : Hid (ruledA (.mk 14 s n [a]) = none) := Lib.hid (by rw [HRU.out, HTD.out, if_neg h])
      have hor : (ka == 14) = false ∨ ((ka == 14) = true ∧ (ban.toList == bs.toList) = false) ∨ ((ka == 14) = true ∧ (ban.toList == bs.toList) = true ∧ (na == n) = false) := by
        by_cases h1 : ka = 14
        · by_cases h2 : a.name = s
          · exact .inr (.inr ⟨by simp [h1], by rw [HEN.out]; exact decide_eq_true h2, by simp; exact fun e => h ⟨h1, h2, e⟩⟩)
          · exact .inr (.inl ⟨by simp [h1], by rw [HEN.out]; exact decide_eq_false h2⟩)
        · exact .inl (by simp [h1])
      clear h
      rcases hor with e1 | ⟨e1, e2⟩ | ⟨e1, e2, e3⟩
      all_goals
        go_wp2_with fail
        have RZ := Lib.hid (blk_put4 RB1.out (.int .i64 14) (.string bs) (.int .i64 n) (.slice (some ⟨b0, off, none⟩) 1 c))
        have BZ := Lib.hid (below_put4A HB1.out (by rw [HBXE.out]; omega : w.heap.size ≤ BX + 1) (.int .i64 14) (.string bs) (.int .i64 n) (.slice (some ⟨b0, off, none⟩) 1 c))
        generalize ((((w1.setCell ⟨BX + 1, 0, none⟩ (.int .i64 14)).setCell ⟨BX + 1, 1, none⟩ (.string bs)).setCell ⟨BX + 1, 2, none⟩ (.int .i64 n)).setCell ⟨BX + 1, 3, none⟩ (.slice (some ⟨b0, off, none⟩) 1 c)) = wz at *
        have q1 := RZ.out.cell (j := 0) rfl
        have q2 := RZ.out.cell (j := 1) rfl
        have q3 := RZ.out.cell (j := 2) rfl
        have q4 := RZ.out.cell (j := 3) rfl
        refine bodyPost_ret (v := .tuple #[.agg #[.int .i64 14, .string bs, .int .i64 n, .slice (some ⟨b0, off, none⟩) 1 c], .bool false]) (by simp [results, Tryd.results26, go_sem, q1, q2, q3, q4]) rfl ?_
        exact rulePost_mk (y := AskT.mk 14 s n [a]) (A := some ⟨b0, off, none⟩) (c := c) (by rw [HTW.out]; rfl) (by rw [HTW.out]; rfl) HVS.out rfl (rule_keep HPX.out BZ.out) BZ.out
  · by_cases h : ka = 15 ∧ a.name = s ∧ na = n
    · have HTW : Hid (ruledA (.mk 15 s n [a]) = some a) := Lib.hid (by rw [HRU.out, HTD.out, if_pos h])
      have e1 : (ka == 15) = true := by simp [h.1]
      have e2 : (ban.toList == bs.toList) = true := by rw [HEN.out]; exact decide_eq_true h.2.1
      have e3 : (na == n) = true := by simp [h.2.2]
      clear h
      go_wp2_with fail
      have RZ := Lib.hid (blk_put4 RB1.out (.int .i64 ka) (.string ban) (.int .i64 na) (.slice Aa la ca))
      have BZ := Lib.hid (below_put4A HB1.out (by rw [HBXE.out]; omega : w.heap.size ≤ BX + 1) (.int .i64 ka) (.string ban) (.int .i64 na) (.slice Aa la ca))
      generalize ((((w1.setCell ⟨BX + 1, 0, none⟩ (.int .i64 ka)).setCell ⟨BX + 1, 1, none⟩ (.string ban)).setCell ⟨BX + 1, 2, none⟩ (.int .i64 na)).setCell ⟨BX + 1, 3, none⟩ (.slice Aa la ca)) = wz at *
      have q1 := RZ.out.cell (j := 0) rfl
      have q2 := RZ.out.cell (j := 1) rfl
      have q3 := RZ.out.cell (j := 2) rfl
      have q4 := RZ.out.cell (j := 3) rfl
      refine bodyPost_ret (v := .tuple #[.agg #[.int .i64 ka, .string ban, .int .i64 na, .slice Aa la ca], .bool true]) (by simp [results, Tryd.results26, go_sem, q1, q2, q3, q4]) rfl ?_
      exact rulePost_mk (y := a) (A := Aa) (c := ca) (by rw [HTW.out]; rfl) (by rw [HTW.out]; rfl) HVA.out rfl (rule_keep HPA.out BZ.out) BZ.out
    · have HTW : Hid (ruledA (.mk 15 s n [a]) = none) := Lib.hid (by rw [HRU.out, HTD.out, if_neg h])
      have hor : (ka == 15) = false ∨ ((ka == 15) = true ∧ (ban.toList == bs.toList) = false) ∨ ((ka == 15) = true ∧ (ban.toList == bs.toList) = true ∧ (na == n) = false) := by
        by_cases h1 : ka = 15
        · by_cases h2 : a.name = s
          · exact .inr (.inr ⟨by simp [h1], by rw [HEN.out]; exact decide_eq_true h2, by simp; exact fun e => h ⟨h1, h2, e⟩⟩)
          · exact .inr (.inl ⟨by simp [h1], by rw [HEN.out]; exact decide_eq_false h2⟩)
        · exact .inl (by simp [h1])
      clear h
      rcases hor with e1 | ⟨e1, e2⟩ | ⟨e1, e2, e3⟩
      all_goals
        go_wp2_with fail
        have RZ := Lib.hid (blk_put4 RB1.out (.int .i64 15) (.string bs) (.int .i64 n) (.slice (some ⟨b0, off, none⟩) 1 c))
        have BZ := Lib.hid (below_put4A HB1.out (by rw [HBXE.out]; omega : w.heap.size ≤ BX + 1) (.int .i64 15) (.string bs) (.int .i64 n) (.slice (some ⟨b0, off, none⟩) 1 c))
        generalize ((((w1.setCell ⟨BX + 1, 0, none⟩ (.int .i64 15)).setCell ⟨BX + 1, 1, none⟩ (.string bs)).setCell ⟨BX + 1, 2, none⟩ (.int .i64 n)).setCell ⟨BX + 1, 3, none⟩ (.slice (some ⟨b0, off, none⟩) 1 c)) = wz at *
        have q1 := RZ.out.cell (j := 0) rfl
        have q2 := RZ.out.cell (j := 1) rfl
        have q3 := RZ.out.cell (j := 2) rfl
        have q4 := RZ.out.cell (j := 3) rfl
        refine bodyPost_ret (v := .tuple #[.agg #[.int .i64 15, .string bs, .int .i64 n, .slice (some ⟨b0, off, none⟩) 1 c], .bool false]) (by simp [results, Tryd.results26, go_sem, q1, q2, q3, q4]) rfl ?_
        exact rulePost_mk (y := AskT.mk 15 s n [a]) (A := some ⟨b0, off, none⟩) (c := c) (by rw [HTW.out]; rfl) (by rw [HTW.out]; rfl) HVS.out rfl (rule_keep HPX.out BZ.out) BZ.out
set_option maxRecDepth 100000 in
set_option maxHeartbeats 4000000 in
theorem nRule_but (s : List UInt8) (n : Int) (a b : AskT) (A : Option Addr) (c : Nat) (w : World) (ok : Nat → Prop) (hA : AskP ok w (.mk 7 s n [a, b]) A c) (hok : okA (.mk 7 s n [a, b])) (hs : sizeA (.mk 7 s n [a, b]) ≤ 60) (hT : NTab w)  :
    Calls Tryd.prog 26 #[askV (.mk 7 s n [a, b]) A c] w (RulePost ok (.mk 7 s n [a, b]) (ruledA (.mk 7 s n [a, b])) w) := by
  have HPX := Lib.hid hA
  have HNT := Lib.hid hT
  have HOK := Lib.hid hok
  have HSZ := Lib.hid hs
  obtain ⟨y, hy⟩ := boxA_new w (.int .i64 7) (.string ⟨s.toArray⟩) (.int .i64 n) (.slice A 2 c) 24
  obtain ⟨r, hr⟩ := boxA_new (w.alloc (.cells #[.int .i64 7, .string ⟨s.toArray⟩, .int .i64 n, .slice A 2 c] 24)) (.int .i64 0) (.string ⟨#[]⟩) (.int .i64 0) (.slice none 0 0) 24
  have Y := Lib.hid (y.below hr)
  have hbr := Blk.new (w.alloc (.cells #[.int .i64 7, .string ⟨s.toArray⟩, .int .i64 n, .slice A 2 c] 24)) #[.int .i64 0, .string ⟨#[]⟩, .int .i64 0, .slice none 0 0] 24
  rw [show (w.alloc (.cells #[.int .i64 7, .string ⟨s.toArray⟩, .int .i64 n, .slice A 2 c] 24)).heap.size = w.heap.size + 1 by simp] at hbr
  have RB := Lib.hid hbr
  have HY := Lib.hid (below_newA hy hr)
  have HZ0 : Hid (((w.alloc (.cells #[.int .i64 7, .string ⟨s.toArray⟩, .int .i64 n, .slice A 2 c] 24)).alloc (.cells #[.int .i64 0, .string ⟨#[]⟩, .int .i64 0, .slice none 0 0] 24)).heap.size = w.heap.size + 2) := Lib.hid (by simp)
  clear hA hok hs hT y hy r hr hbr
  have HVS := Lib.hid (show askV (.mk 7 s n [a, b]) A c = .agg #[.int .i64 7, .string ⟨s.toArray⟩, .int .i64 n, .slice A 2 c] from rfl)
  rw [HVS.out]
  generalize hbs : (⟨s.toArray⟩ : ByteArray) = bs at *
  have HBS := Lib.hid hbs
  clear hbs
  go_enter Tryd.func26, Tryd.ntmps26
  go_upto_region 1 with fail
  generalize (w.alloc (.cells #[.int .i64 7, .string bs, .int .i64 n, .slice A 2 c] 24)).alloc (.cells #[.int .i64 0, .string ⟨#[]⟩, .int .i64 0, .slice none 0 0] 24) = w0 at *
  obtain ⟨BX, hBX⟩ : ∃ BX, BX = w.heap.size := ⟨_, rfl⟩
  have HBXE := Lib.hid hBX
  rw [← hBX] at Y RB ⊢
  clear hBX
  have HPW := Lib.hid (AskP.mono (ok' := fun j => ok j ∧ j < w.heap.size) (fun _ h1 h2 => ⟨h1, h2⟩) _ _ _ HPX.out)
  have HP0 := Lib.hid (askP_below HPW.out HY.out)
  have HN0 := Lib.hid (HNT.out.below HY.out)
  obtain ⟨b0, off, Aa, ca, hAe, p1, p2, p3, p4, hca⟩ := AskP.child HPX.out (i := 0) (x := a) rfl
  subst hAe
  obtain ⟨b1, off1, Ab, cb, hAe, q1, q2, q3, q4, hcb⟩ := AskP.child HPX.out (i := 1) (x := b) rfl
  injection hAe with hAe
  injection hAe with hA1 hA2 _
  subst hA1 hA2
  replace p1 := cell_keptA p1 HY.out
  replace p2 := cell_keptA p2 HY.out
  replace p3 := cell_keptA p3 HY.out
  replace p4 := cell_keptA p4 HY.out
  replace q1 := cell_keptA q1 HY.out
  replace q2 := cell_keptA q2 HY.out
  replace q3 := cell_keptA q3 HY.out
  replace q4 := cell_keptA q4 HY.out
  simp only [Nat.zero_mul, Nat.add_zero, Nat.one_mul] at p1 p2 p3 p4 q1 q2 q3 q4
  have HPA := Lib.hid hca
  have HPB := Lib.hid hcb
  clear hca hcb
  have HRU : Hid (ruledA (.mk 7 s n [a, b]) = butA a b) := Lib.hid (by rw [ruledA_mk, if_neg (by omega), if_neg (by omega), if_neg (by omega), if_pos rfl]; rfl)
  obtain ⟨u, hu⟩ := boxA_new w0 (.int .i64 b.kind) (.string ⟨b.name.toArray⟩) (.int .i64 b.n) (.slice Ab b.X.length cb) 24
  have U := Lib.hid u
  have Y1 := Lib.hid (Y.out.below hu)
  have RB1 := Lib.hid (RB.out.below hu RB.out.lt)
  have HB1 := Lib.hid (below_newA HY.out hu)
  have PA := Lib.hid (show _ ∧ _ ∧ _ ∧ _ from ⟨cell_keptA p1 hu, cell_keptA p2 hu, cell_keptA p3 hu, cell_keptA p4 hu⟩)
  clear u hu HP0 HPW
  obtain ⟨y1, y2, y3, y4⟩ := Y.out
  go_upto_region 18 with fail
  generalize w0.alloc (.cells #[.int .i64 b.kind, .string ⟨b.name.toArray⟩, .int .i64 b.n, .slice Ab b.X.length cb] 24) = w1 at *
  clear y1 y2 y3 y4 p1 p2 p3 p4 q1 q2 q3 q4
  generalize w0.heap.size = BB at *
  by_cases h7 : b.kind = 7
  · obtain ⟨k', s', n', X'⟩ := b
    have hk7 : k' = 7 := h7
    subst hk7
    have hob := ok_kids HOK.out (.mk 7 s' n' X') (by simp)
    obtain ⟨cc, dd, hX'⟩ := ok_two hob (by omega)
    subst hX'
    obtain ⟨b2, of2, Ac, c2, hAe, m1, m2, m3, m4, hcc⟩ := AskP.child HPB.out (i := 0) (x := cc) rfl
    subst hAe
    obtain ⟨b3, of3, Ad, d2, hAe, o1, o2, o3, o4, hcd⟩ := AskP.child HPB.out (i := 1) (x := dd) rfl
    injection hAe with hAe
    injection hAe with hA1 hA2 _
    subst hA1 hA2
    replace m1 := cell_keptA m1 HB1.out
    replace m2 := cell_keptA m2 HB1.out
    replace m3 := cell_keptA m3 HB1.out
    replace m4 := cell_keptA m4 HB1.out
    replace o1 := cell_keptA o1 HB1.out
    replace o2 := cell_keptA o2 HB1.out
    replace o3 := cell_keptA o3 HB1.out
    replace o4 := cell_keptA o4 HB1.out
    simp only [Nat.zero_mul, Nat.add_zero, Nat.one_mul] at m1 m2 m3 m4 o1 o2 o3 o4
    have HPC := Lib.hid hcc
    have HPD := Lib.hid hcd
    have PC := Lib.hid (show _ ∧ _ ∧ _ ∧ _ from ⟨m1, m2, m3, m4⟩)
    have PD := Lib.hid (show _ ∧ _ ∧ _ ∧ _ from ⟨o1, o2, o3, o4⟩)
    have hsa : sizeA a ≤ 60 ∧ sizeA cc ≤ 60 := by
      have h1 := sz2 7 s n a (.mk 7 s' n' [cc, dd])
      have h2 := sz2 7 s' n' cc dd
      have := HSZ.out
      omega
    have CTA := Lib.hid (fun W (hb2 : Below w1.heap.size w1 W) => nText_any a Aa ca W (AskAt.keep (below_newA HB1.out hb2) _ _ _ (AskP.at_ _ _ _ HPA.out)) (ok_kids HOK.out a (by simp)) hsa.1 (HNT.out.below (below_newA HB1.out hb2)))
    have CTC := Lib.hid (fun W (hb2 : Below w1.heap.size w1 W) => nText_any cc Ac c2 W (AskAt.keep (below_newA HB1.out hb2) _ _ _ (AskP.at_ _ _ _ HPC.out)) (ok_kids hob cc (by simp)) hsa.2 (HNT.out.below (below_newA HB1.out hb2)))
    unfold askV StrPost at CTA CTC
    have HTT : Hid (butA a (.mk 7 s' n' [cc, dd]) = if textA cc = textA a then some (.mk 6 [] 0 [a, dd]) else none) := Lib.hid rfl
    clear m1 m2 m3 m4 o1 o2 o3 o4 hcc hcd hob hsa h7
    have HRT : Hid (decide (textA cc = textA a) = true → ruledA (.mk 7 s n [a, .mk 7 s' n' [cc, dd]]) = some (.mk 6 [] 0 [a, dd])) := Lib.hid (fun h => by rw [HRU.out, HTT.out, if_pos (of_decide_eq_true h)])
    have HRF : Hid (decide (textA cc = textA a) = false → ruledA (.mk 7 s n [a, .mk 7 s' n' [cc, dd]]) = none) := Lib.hid (fun h => by rw [HRU.out, HTT.out, if_neg (of_decide_eq_false h)])
    have HEQ := Lib.hid (eq_sv (textA cc) (textA a))
    replace U : Hid (BoxA BB (.int .i64 7) (.string ⟨s'.toArray⟩) (.int .i64 n') (.slice (some ⟨b2, of2, none⟩) 2 cb) w1) := U
    clear HRU HTT
    generalize decide (textA cc = textA a) = tt at *
    generalize (⟨(textA cc).toArray⟩ : ByteArray) = tc at *
    generalize (⟨(textA a).toArray⟩ : ByteArray) = ta at *
    generalize (⟨s'.toArray⟩ : ByteArray) = sn at *
    have HLA : Hid (([.int .i64 a.kind, .string ⟨a.name.toArray⟩, .int .i64 a.n, .slice Aa a.X.length ca, .int .i64 dd.kind, .string ⟨dd.name.toArray⟩, .int .i64 dd.n, .slice Ad dd.X.length d2] : List Value) = [.int .i64 a.kind, .string ⟨a.name.toArray⟩, .int .i64 a.n, .slice Aa a.X.length ca, .int .i64 dd.kind, .string ⟨dd.name.toArray⟩, .int .i64 dd.n, .slice Ad dd.X.length d2]) := Lib.hid rfl
    generalize hg1 : (⟨a.name.toArray⟩ : ByteArray) = aan at *
    generalize hg2 : (⟨cc.name.toArray⟩ : ByteArray) = ccn at *
    generalize hg3 : (⟨dd.name.toArray⟩ : ByteArray) = ddn at *
    generalize hg4 : a.kind = ka at *
    generalize hg5 : a.n = na at *
    generalize hg6 : a.X.length = la at *
    generalize cc.kind = kc at *
    generalize cc.n = nc at *
    generalize cc.X.length = lc at *
    generalize hg7 : dd.kind = kd at *
    generalize hg8 : dd.n = nd at *
    generalize hg9 : dd.X.length = ld at *
    have HG := Lib.hid (show _ ∧ _ ∧ _ ∧ _ ∧ _ ∧ _ ∧ _ ∧ _ from ⟨hg1, hg3, hg4, hg5, hg6, hg7, hg8, hg9⟩)
    clear hg1 hg2 hg3 hg4 hg5 hg6 hg7 hg8 hg9 HLA
    have HSL := Lib.hid (fun W (hW : Below w1.heap.size w1 W) => (⟨(Y1.out.below hW).c4, (U.out.below hW).c1, (U.out.below hW).c4, cell_keptA PA.out.1 hW, cell_keptA PA.out.2.1 hW, cell_keptA PA.out.2.2.1 hW, cell_keptA PA.out.2.2.2 hW, cell_keptA PC.out.1 hW, cell_keptA PC.out.2.1 hW, cell_keptA PC.out.2.2.1 hW, cell_keptA PC.out.2.2.2 hW, hW⟩ : W.cell? ⟨BX, 3, none⟩ = some (.slice (some ⟨b0, off, none⟩) 2 c) ∧ W.cell? ⟨BB, 0, none⟩ = some (.int .i64 7) ∧ W.cell? ⟨BB, 3, none⟩ = some (.slice (some ⟨b2, of2, none⟩) 2 cb) ∧ W.cell? ⟨b0, off, none⟩ = some (.int .i64 ka) ∧ W.cell? ⟨b0, off + 1, none⟩ = some (.string aan) ∧ W.cell? ⟨b0, off + 2, none⟩ = some (.int .i64 na) ∧ W.cell? ⟨b0, off + 3, none⟩ = some (.slice Aa la ca) ∧ W.cell? ⟨b2, of2, none⟩ = some (.int .i64 kc) ∧ W.cell? ⟨b2, of2 + 1, none⟩ = some (.string ccn) ∧ W.cell? ⟨b2, of2 + 2, none⟩ = some (.int .i64 nc) ∧ W.cell? ⟨b2, of2 + 3, none⟩ = some (.slice Ac lc c2) ∧ Below w1.heap.size w1 W))
    go_cut [77] (fun s77 wx => s77 = .bool tt ∧ Below w1.heap.size w1 wx)
    case first =>
      have bd : Below w1.heap.size w1 w1.drew := Below.drew (Below.refl _ _)
      go_region_held3 (fun W => W.cell? ⟨BX, 3, none⟩ = some (.slice (some ⟨b0, off, none⟩) 2 c) ∧ W.cell? ⟨BB, 0, none⟩ = some (.int .i64 7) ∧ W.cell? ⟨BB, 3, none⟩ = some (.slice (some ⟨b2, of2, none⟩) 2 cb) ∧ W.cell? ⟨b0, off, none⟩ = some (.int .i64 ka) ∧ W.cell? ⟨b0, off + 1, none⟩ = some (.string aan) ∧ W.cell? ⟨b0, off + 2, none⟩ = some (.int .i64 na) ∧ W.cell? ⟨b0, off + 3, none⟩ = some (.slice Aa la ca) ∧ W.cell? ⟨b2, of2, none⟩ = some (.int .i64 kc) ∧ W.cell? ⟨b2, of2 + 1, none⟩ = some (.string ccn) ∧ W.cell? ⟨b2, of2 + 2, none⟩ = some (.int .i64 nc) ∧ W.cell? ⟨b2, of2 + 3, none⟩ = some (.slice Ac lc c2) ∧ Below w1.heap.size w1 W)
        ((refine HSL.out _ ?_; first | assumption | exact Below.drew (by assumption)))
        ((first
          | (go_at_call 40; (with_reducible refine (CTA.out _ (by first | assumption | exact Below.drew (by assumption))).mono ?_); rintro e u7 ⟨rfl, h7⟩; have b7 := below_then (by first | assumption | exact Below.drew (by assumption)) h7)
          | (go_at_call 40; (with_reducible refine (CTC.out _ (by first | assumption | exact Below.drew (by assumption))).mono ?_); rintro e u8 ⟨rfl, h8⟩; have b8 := below_then (by first | assumption | exact Below.drew (by assumption)) h8)))
      all_goals
        go_wp2_with fail
        go_meet
        exact ⟨congrArg Value.bool HEQ.out, by first | assumption | exact Below.drew (by assumption)⟩
    case rest =>
      obtain ⟨rfl, hb3⟩ := hcut
      have HB3 := Lib.hid (below_newA HB1.out hb3)
      have RB3 := Lib.hid (RB1.out.below hb3 RB1.out.lt)
      have Y3 := Lib.hid (Y1.out.below hb3)
      have U3 := Lib.hid (U.out.below hb3)
      have PA3 := Lib.hid (show _ ∧ _ ∧ _ ∧ _ from ⟨cell_keptA PA.out.1 hb3, cell_keptA PA.out.2.1 hb3, cell_keptA PA.out.2.2.1 hb3, cell_keptA PA.out.2.2.2 hb3⟩)
      have PD3 := Lib.hid (show _ ∧ _ ∧ _ ∧ _ from ⟨cell_keptA PD.out.1 hb3, cell_keptA PD.out.2.1 hb3, cell_keptA PD.out.2.2.1 hb3, cell_keptA PD.out.2.2.2 hb3⟩)
      clear hb3 HSL CTA CTC
      generalize hw3 : wc = w3 at *
      clear hw3
      obtain ⟨y1, y2, y3, y4⟩ := Y3.out
      have rf := RB3.out.free
      have r1 := RB3.out.cell (j := 0) rfl
      have r2 := RB3.out.cell (j := 1) rfl
      have r3 := RB3.out.cell (j := 2) rfl
      have r4 := RB3.out.cell (j := 3) rfl
      cases tt with
      | false =>
        have HTW := Lib.hid (HRF.out rfl)
        go_wp2_with fail
        have RZ := Lib.hid (blk_put4 RB3.out (.int .i64 7) (.string bs) (.int .i64 n) (.slice (some ⟨b0, off, none⟩) 2 c))
        have BZ := Lib.hid (below_put4A HB3.out (by rw [HBXE.out]; omega : w.heap.size ≤ BX + 1) (.int .i64 7) (.string bs) (.int .i64 n) (.slice (some ⟨b0, off, none⟩) 2 c))
        generalize ((((w3.setCell ⟨BX + 1, 0, none⟩ (.int .i64 7)).setCell ⟨BX + 1, 1, none⟩ (.string bs)).setCell ⟨BX + 1, 2, none⟩ (.int .i64 n)).setCell ⟨BX + 1, 3, none⟩ (.slice (some ⟨b0, off, none⟩) 2 c)) = wz at *
        have q1 := RZ.out.cell (j := 0) rfl
        have q2 := RZ.out.cell (j := 1) rfl
        have q3 := RZ.out.cell (j := 2) rfl
        have q4 := RZ.out.cell (j := 3) rfl
        refine bodyPost_ret (v := .tuple #[.agg #[.int .i64 7, .string bs, .int .i64 n, .slice (some ⟨b0, off, none⟩) 2 c], .bool false]) (by simp [results, Tryd.results26, go_sem, q1, q2, q3, q4]) rfl ?_
        exact rulePost_mk (y := AskT.mk 7 s n [a, .mk 7 s' n' [cc, dd]]) (A := some ⟨b0, off, none⟩) (c := c) (by rw [HTW.out]; rfl) (by rw [HTW.out]; rfl) HVS.out rfl (rule_keep HPX.out BZ.out) BZ.out
      | true =>
        have HTW := Lib.hid (HRT.out rfl)
        obtain ⟨x1, x2, x3, x4⟩ := U3.out
        obtain ⟨p1, p2, p3, p4⟩ := PA3.out
        obtain ⟨o1, o2, o3, o4⟩ := PD3.out
        have HB8 := Lib.hid (below_new HB3.out (.cells #[.int .i64 ka, .string aan, .int .i64 na, .slice Aa la ca, .int .i64 kd, .string ddn, .int .i64 nd, .slice Ad ld d2] 24))
        have RB8 := Lib.hid (RB3.out.below (below_new (Below.refl _ _) (.cells #[.int .i64 ka, .string aan, .int .i64 na, .slice Aa la ca, .int .i64 kd, .string ddn, .int .i64 nd, .slice Ad ld d2] 24)) RB3.out.lt)
        have n1 := RB8.out.cell (j := 0) rfl
        have n2 := RB8.out.cell (j := 1) rfl
        have n3 := RB8.out.cell (j := 2) rfl
        have n4 := RB8.out.cell (j := 3) rfl
        have nf := RB8.out.free
        have HGE : Hid (w.heap.size ≤ w3.heap.size) := Lib.hid HB3.out.size
        have HNE : Hid (w3.heap.size ≠ BX + 1) := Lib.hid (by have := RB3.out.lt; omega)
        have HC8 : Hid (∀ j u, ([.int .i64 a.kind, .string ⟨a.name.toArray⟩, .int .i64 a.n, .slice Aa a.X.length ca, .int .i64 dd.kind, .string ⟨dd.name.toArray⟩, .int .i64 dd.n, .slice Ad dd.X.length d2] : List Value)[j]? = some u → (w3.alloc (.cells #[.int .i64 ka, .string aan, .int .i64 na, .slice Aa la ca, .int .i64 kd, .string ddn, .int .i64 nd, .slice Ad ld d2] 24)).cell? ⟨w3.heap.size, j, none⟩ = some u) := Lib.hid (fun j u hu => by
          obtain ⟨g1, g2, g3, g4, g5, g6, g7, g8⟩ := HG.out
          rw [g1, g2, g3, g4, g5, g6, g7, g8] at hu
          rw [World.cell?_alloc_at _ _ _ _ rfl]
          simpa using hu)
        go_wp2_with fail
        go_region
        have HCZ := Lib.hid (fun j u hu => cell_drewA (cell_put4A (HC8.out j u hu) HNE.out (.int .i64 6) (.string ⟨#[]⟩) (.int .i64 0) (.slice (some ⟨w3.heap.size, 0, none⟩) 2 2)))
        go_wp2_with fail
        have RZ := Lib.hid (Blk.drw <| blk_put4 RB8.out (.int .i64 6) (.string ⟨#[]⟩) (.int .i64 0) (.slice (some ⟨w3.heap.size, 0, none⟩) 2 2))
        have BZ := Lib.hid (Below.drew <| below_put4A HB8.out (by rw [HBXE.out]; omega : w.heap.size ≤ BX + 1) (.int .i64 6) (.string ⟨#[]⟩) (.int .i64 0) (.slice (some ⟨w3.heap.size, 0, none⟩) 2 2))
        generalize (((((w3.alloc (.cells #[.int .i64 ka, .string aan, .int .i64 na, .slice Aa la ca, .int .i64 kd, .string ddn, .int .i64 nd, .slice Ad ld d2] 24)).setCell ⟨BX + 1, 0, none⟩ (.int .i64 6)).setCell ⟨BX + 1, 1, none⟩ (.string ⟨#[]⟩)).setCell ⟨BX + 1, 2, none⟩ (.int .i64 0)).setCell ⟨BX + 1, 3, none⟩ (.slice (some ⟨w3.heap.size, 0, none⟩) 2 2)).drew = wz at *
        have q1 := RZ.out.cell (j := 0) rfl
        have q2 := RZ.out.cell (j := 1) rfl
        have q3 := RZ.out.cell (j := 2) rfl
        have q4 := RZ.out.cell (j := 3) rfl
        refine bodyPost_ret (v := .tuple #[.agg #[.int .i64 6, .string ⟨#[]⟩, .int .i64 0, .slice (some ⟨w3.heap.size, 0, none⟩) 2 2], .bool true]) (by simp [results, Tryd.results26, go_sem, q1, q2, q3, q4]) rfl ?_
        exact rulePost_mk (y := AskT.mk 6 [] 0 [a, dd]) (A := some ⟨w3.heap.size, 0, none⟩) (c := 2) (by rw [HTW.out]; rfl) (by rw [HTW.out]; rfl) rfl rfl (askP_two 6 [] 0 (.inr HGE.out) HCZ.out (rule_keep HPA.out BZ.out) (rule_keep HPD.out BZ.out)) BZ.out
  · have HTW : Hid (ruledA (.mk 7 s n [a, b]) = none) := Lib.hid (by rw [HRU.out]; unfold butA; rw [if_neg h7])
    have e1 : (b.kind == 7) = false := by simp [h7]
    clear h7
    generalize hbn : (⟨b.name.toArray⟩ : ByteArray) = bbn at *
    clear hbn
    generalize b.kind = kb at *
    generalize b.n = nb at *
    generalize b.X.length = lb at *
    obtain ⟨x1, x2, x3, x4⟩ := U.out
    obtain ⟨y1, y2, y3, y4⟩ := Y1.out
    go_cut [77] (fun s77 wx => s77 = .bool false ∧ ∃ m, wx = w1.drewN m)
    case first =>
      go_quiet (fail)
      go_wp2_with fail
      go_meet
      exact ⟨rfl, _, rfl⟩
    case rest =>
      obtain ⟨rfl, m, hwm⟩ := hcut
      have R3' : Blk wc (BX + 1) 24 [.int .i64 0, .string ⟨#[]⟩, .int .i64 0, .slice none 0 0] := by rw [hwm]; exact RB1.out
      have RB3 := Lib.hid R3'
      have hb3 : Below w.heap.size w wc := by rw [hwm]; exact below_drewN HB1.out m
      have HB3 := Lib.hid hb3
      have Y3 : BoxA BX (.int .i64 7) (.string bs) (.int .i64 n) (.slice (some ⟨b0, off, none⟩) 2 c) wc := by rw [hwm]; exact ⟨Y1.out.c1, Y1.out.c2, Y1.out.c3, Y1.out.c4⟩
      clear x1 x2 x3 x4 y1 y2 y3 y4 R3' hb3
      generalize hw3 : wc = w3 at *
      clear hw3 hwm
      obtain ⟨y1, y2, y3, y4⟩ := Y3
      have rf := RB3.out.free
      have r1 := RB3.out.cell (j := 0) rfl
      have r2 := RB3.out.cell (j := 1) rfl
      have r3 := RB3.out.cell (j := 2) rfl
      have r4 := RB3.out.cell (j := 3) rfl
      go_wp2_with fail
      have RZ := Lib.hid (blk_put4 RB3.out (.int .i64 7) (.string bs) (.int .i64 n) (.slice (some ⟨b0, off, none⟩) 2 c))
      have BZ := Lib.hid (below_put4A HB3.out (by rw [HBXE.out]; omega : w.heap.size ≤ BX + 1) (.int .i64 7) (.string bs) (.int .i64 n) (.slice (some ⟨b0, off, none⟩) 2 c))
      generalize ((((w3.setCell ⟨BX + 1, 0, none⟩ (.int .i64 7)).setCell ⟨BX + 1, 1, none⟩ (.string bs)).setCell ⟨BX + 1, 2, none⟩ (.int .i64 n)).setCell ⟨BX + 1, 3, none⟩ (.slice (some ⟨b0, off, none⟩) 2 c)) = wz at *
      have q1 := RZ.out.cell (j := 0) rfl
      have q2 := RZ.out.cell (j := 1) rfl
      have q3 := RZ.out.cell (j := 2) rfl
      have q4 := RZ.out.cell (j := 3) rfl
      refine bodyPost_ret (v := .tuple #[.agg #[.int .i64 7, .string bs, .int .i64 n, .slice (some ⟨b0, off, none⟩) 2 c], .bool false]) (by simp [results, Tryd.results26, go_sem, q1, q2, q3, q4]) rfl ?_
      exact rulePost_mk (y := AskT.mk 7 s n [a, b]) (A := some ⟨b0, off, none⟩) (c := c) (by rw [HTW.out]; rfl) (by rw [HTW.out]; rfl) HVS.out rfl (rule_keep HPX.out BZ.out) BZ.out
end Go.Proofs.YtcodncddaemhlaaDoor
/- Contract: norm.rule, whatever the kind; slices of asks that a call makes. -/
namespace Go.Proofs.YtcodncddaemhlaaDoor
open Go.RowKit

theorem nRule_any (x : AskT) (A : Option Addr) (c : Nat) (w : World) (ok : Nat → Prop) (hA : AskP ok w x A c) (hok : okA x) (hs : sizeA x ≤ 60) (hT : NTab w) :
    Calls Tryd.prog 26 #[askV x A c] w (RulePost ok x (ruledA x) w) := by
  obtain ⟨k, s, n, X⟩ := x
  obtain ⟨h1, h2, _, _, _⟩ := ok_form hok
  by_cases h5 : k = 5 ∨ k = 6
  · obtain ⟨a, b, rfl⟩ := ok_two hok (by omega)
    exact nRule_two k s n a b A c w ok hA hok hs hT h5
  by_cases h8 : k = 8 ∨ k = 9 ∨ k = 10 ∨ k = 11
  · obtain ⟨a, rfl⟩ := ok_one hok (by omega)
    exact nRule_walk k s n a A c w ok hA hok hs hT h8 _ _ rfl rfl
  by_cases h14 : k = 14 ∨ k = 15
  · obtain ⟨a, rfl⟩ := ok_one hok (by omega)
    exact nRule_same k s n a A c w ok hA hok hs hT h14
  by_cases h7 : k = 7
  · subst h7
    obtain ⟨a, b, rfl⟩ := ok_two hok (by omega)
    exact nRule_but s n a b A c w ok hA hok hs hT
  · exact nRule_none k s n X A c w ok hA hok hs hT (by omega)
/-! ### Slices of asks -/
theorem elAsk : ∃ i, Tryd.prog.info? 24 = some i ∧ i.zero = some (.agg #[.int .i64 0, .string ⟨#[]⟩, .int .i64 0, .slice none 0 0]) ∧ i.size = 4 ∧ i.bytes = 56 := by
  have h : (Tryd.prog.info? 24).map (fun i => (i.zero, i.size, i.bytes)) = some (some (.agg #[.int .i64 0, .string ⟨#[]⟩, .int .i64 0, .slice none 0 0]), 4, 56) := by kernel_rfl
  cases hi : Tryd.prog.info? 24 with
  | none => rw [hi] at h; cases h
  | some i =>
    rw [hi] at h
    simp at h
    exact ⟨i, rfl, h⟩
theorem own_formK {w : World} {B e z : Nat} {v : Value} {n : Nat} {xs : List Value} (h : w.ownsRow B e z v n xs) : ∃ A c, v = .slice A n c ∧ n ≤ c := by
  rcases h.2 with ⟨rfl, rfl⟩ | ⟨g, cap, _, rfl, _, _, hle, _⟩
  · exact ⟨_, _, rfl, Nat.le_refl _⟩
  · exact ⟨_, _, rfl, hle⟩
theorem own_belowK {w w' : World} {B e z : Nat} {v : Value} {n : Nat} {xs : List Value} (h : w.ownsRow B e z v n xs) (hb : Below w.heap.size w w') : w'.ownsRow B e z v n xs :=
  h.kept (w' := w') (row := none) ⟨hb.os, hb.tape, hb.output, hb.size, fun k hk _ => hb.block k hk⟩ (by
    cases hv : v.ownBlock with
    | none => exact .inl rfl
    | some g => exact .inr (by simp))
theorem rd_of_ownA {w : World} {B e z : Nat} {A : Option Addr} {n c : Nat} {xs : List Value} (h : w.ownsRow B e z (.slice A n c) n xs) : Rd w A xs := by
  intro hn
  rcases h.2 with ⟨hv, h0⟩ | ⟨g, cap, cur, hv, _, hh, _, _, _, _⟩
  · have := h.1; rw [h0, Nat.zero_mul] at this; omega
  · injection hv with hA _ _
    subst hA
    have hlt : g < w.heap.size := by
      rcases Nat.lt_or_ge g w.heap.size with h' | h'
      · exact h'
      · rw [Array.getElem?_eq_none h'] at hh; cases hh
    refine ⟨g, 0, rfl, hlt, fun j u hu => ?_⟩
    have := h.cells (g := g) rfl j u hu
    unfold Addr.add at this
    by_cases hj : j = 0
    · subst hj; simpa using this
    · simpa [hj] using this
section
variable {ops : Array Oper} {rest : List Oper} {o : Oper} {a : Act} {Q : Exit → Act → World → Prop}
/-- 'in = append(in, x)' at asks. -/
theorem wpList_pushAsk (wr : World) (s x : Operand) (B : Nat) (A : Option Addr) (n c : Nat) (xs : List Value) (v1 v2 v3 v4 : Value) (hv : ∀ u ∈ [v1, v2, v3, v4], u.oneCell' = true)
    (hown : wr.ownsRow B 24 4 (.slice A n c) n xs) (hB : B ≤ wr.heap.size) (hn : n + 1 ≤ 1000)
    (hgd : o.guard = none) (ho : o.op = .call { callee := .builtin .append, args := #[s, x], argTypes := #[22, 22] })
    (hs : a.eval s = .slice A n c) (hx : a.eval x = .slice (some ⟨wr.heap.size, 0, none⟩) 1 1)
    (h : ∀ A' c' w', w'.ownsRow B 24 4 (.slice A' (n + 1) c') (n + 1) (xs ++ [v1, v2, v3, v4]) → Below B wr w' → (wr.alloc (.cells #[v1, v2, v3, v4] 24)).grownBy w' (Value.slice A n c).ownBlock →
      ((Value.slice A' (n + 1) c').ownBlock = (Value.slice A n c).ownBlock ∨ (Value.slice A' (n + 1) c').ownBlock = some (wr.heap.size + 1)) → wpList Tryd.prog ops Q rest (a.put o.dst (.slice A' (n + 1) c')) w') :
    wpList Tryd.prog ops Q (o :: rest) a (wr.alloc (.cells #[v1, v2, v3, v4] 24)) := by
  obtain ⟨i, hi, hz, h1, hb⟩ := elAsk
  have hB' : B ≤ (wr.alloc (.cells #[v1, v2, v3, v4] 24)).heap.size := by simp; omega
  refine wpList_append_own_at _ hgd s x 22 ho B 24 i _ 4 56 Tryd.underlying22 hi hz h1 hb rfl (by decide) _ n xs hs (hown.alloc _) ⟨wr.heap.size, 0, none⟩ 1 1 [v1, v2, v3, v4] hx rfl ?_ hv (by unfold maxLen; omega) (by omega) hB' ?_
  · intro j y hj
    have hlt := (List.getElem?_eq_some_iff.1 hj).1
    simp at hlt
    unfold Addr.add
    by_cases h0 : j = 0
    · subst h0
      rw [if_pos rfl, World.cell?_alloc_at _ _ _ _ rfl]
      simpa using hj
    · rw [if_neg h0]
      show (wr.alloc _).cell? ⟨wr.heap.size, 0 + j, none⟩ = _
      rw [Nat.zero_add, World.cell?_alloc_at _ _ _ _ rfl]
      simpa using hj
  · intro v' w' hown' hg _ hat
    obtain ⟨A', c', rfl, _⟩ := own_formK hown'
    refine h A' c' w' hown' ?_ hg ?_
    · exact ((Below.refl B wr).alloc (by omega) _).grown hg hB' (fun k hk => (hown.lt k hk).1)
    · have e : (wr.alloc (.cells #[v1, v2, v3, v4] 24)).heap.size = wr.heap.size + 1 := by simp
      rw [← e]
      exact hat
end
/-- The asks L, made one behind the other: they lie in a row of the call's own; what is in them lies elsewhere. -/
def MadeIs (P : Nat → Prop) (B : Nat) (L : List AskT) (v : Value) (wx : World) : Prop :=
  ∃ A c ac, v = .slice A L.length c ∧ ac.length = L.length ∧ wx.ownsRow B 24 4 (.slice A L.length c) L.length (cellsA L ac) ∧
    ∀ (i : Nat) (x : AskT) (a : Option Addr × Nat), L[i]? = some x → ac[i]? = some a → AskP (fun k => P k ∧ some k ≠ (Value.slice A L.length c).ownBlock) wx x a.1 a.2
theorem cellsA_snoc {L : List AskT} {ac : List (Option Addr × Nat)} {x : AskT} {a : Option Addr × Nat} (h : ac.length = L.length) : cellsA (L ++ [x]) (ac ++ [a]) = cellsA L ac ++ [.int .i64 x.kind, .string ⟨x.name.toArray⟩, .int .i64 x.n, .slice a.1 x.X.length a.2] := by
  unfold cellsA
  rw [List.zip_append h.symm]
  simp
/-- One more. -/
theorem made_push {P : Nat → Prop} {B : Nat} {L : List AskT} {A A' : Option Addr} {c c' : Nat} {ac : List (Option Addr × Nat)} {x : AskT} {a : Option Addr × Nat} {w1 w2 w3 : World} {o : Obj}
    (hl : ac.length = L.length)
    (hX : ∀ (i : Nat) (y : AskT) (b : Option Addr × Nat), L[i]? = some y → ac[i]? = some b → AskP (fun k => P k ∧ some k ≠ (Value.slice A L.length c).ownBlock) w1 y b.1 b.2)
    (hb : Below w1.heap.size w1 w2) (hx : AskP (fun k => P k ∧ some k ≠ (Value.slice A L.length c).ownBlock) w2 x a.1 a.2)
    (hown' : w3.ownsRow B 24 4 (.slice A' (L.length + 1) c') (L.length + 1) (cellsA L ac ++ [.int .i64 x.kind, .string ⟨x.name.toArray⟩, .int .i64 x.n, .slice a.1 x.X.length a.2]))
    (hg : (w2.alloc o).grownBy w3 (Value.slice A L.length c).ownBlock) (hat : (Value.slice A' (L.length + 1) c').ownBlock = (Value.slice A L.length c).ownBlock ∨ (Value.slice A' (L.length + 1) c').ownBlock = some (w2.heap.size + 1)) :
    MadeIs P B (L ++ [x]) (.slice A' (L.length + 1) c') w3 := by
  have hlen : (L ++ [x]).length = L.length + 1 := by simp
  have key : ∀ (y : AskT) (b : Option Addr × Nat), AskP (fun k => P k ∧ some k ≠ (Value.slice A L.length c).ownBlock) w2 y b.1 b.2 → AskP (fun k => P k ∧ some k ≠ (Value.slice A' (L.length + 1) c').ownBlock) w3 y b.1 b.2 := fun y b hy => by
    have h1 : AskP (fun k => (P k ∧ some k ≠ (Value.slice A L.length c).ownBlock) ∧ k < w2.heap.size) w2 y b.1 b.2 := AskP.mono (fun _ h1 h2 => ⟨h1, h2⟩) _ _ _ hy
    have h2 : AskP (fun k => (P k ∧ some k ≠ (Value.slice A L.length c).ownBlock) ∧ k < w2.heap.size) w3 y b.1 b.2 := AskP.keep (fun k hk hlt => by
      have e1 : (w2.alloc o).heap[k]? = w2.heap[k]? := by show (w2.heap.push o)[k]? = _; rw [Array.getElem?_push_lt hlt, Array.getElem?_eq_getElem hlt]
      rw [← e1]
      exact hg.block k (by simp; omega) hk.1.2) (by have := hg.size; simp at this; omega) _ _ _ h1
    refine AskP.mono (fun k hk _ => ⟨hk.1.1, ?_⟩) _ _ _ h2
    rcases hat with e | e
    · rw [e]; exact hk.1.2
    · rw [e]
      intro h
      injection h with h
      have := hk.2
      omega
  refine ⟨A', c', ac ++ [a], by rw [hlen], by simp [hl], by rw [hlen, cellsA_snoc hl]; exact hown', fun i y b hy hb' => ?_⟩
  rw [hlen]
  rcases Nat.lt_or_ge i L.length with h | h
  · rw [List.getElem?_append_left h] at hy
    rw [List.getElem?_append_left (by omega)] at hb'
    exact key y b (askP_below (hX i y b hy hb') hb)
  · have hi : i = L.length := by
      have := (List.getElem?_eq_some_iff.1 hy).1
      simp at this
      omega
    subst hi
    rw [List.getElem?_append_right (Nat.le_refl _)] at hy
    rw [List.getElem?_append_right (by omega), hl] at hb'
    simp at hy hb'
    subst hy hb'
    exact key _ _ hx
/-- The whole, as what an ask has in it. -/
theorem made_ask {P : Nat → Prop} {B : Nat} {L : List AskT} {v : Value} {wx : World} (h : MadeIs P B L v wx) (k : Int) (s : List UInt8) (n : Int) : ∃ A c, v = .slice A L.length c ∧ AskP (fun j => P j ∨ B ≤ j) wx (.mk k s n L) A c := by
  obtain ⟨A, c, ac, rfl, hl, hown, hX⟩ := h
  obtain ⟨A', c', he, hle⟩ := own_formK hown
  injection he with h1 _ h3
  subst h1 h3
  refine ⟨A, c, rfl, .mk ac hl hle (fun b off hA _ => .inr ?_) (rd_of_ownA hown) fun i x a hx ha => AskP.mono (fun j hj _ => .inl hj.1) _ _ _ (hX i x a hx ha)⟩
  subst hA
  rcases hown.2 with ⟨hv, _⟩ | ⟨g, cap, _, hv, hb, _⟩
  · cases hv
  · injection hv with hv _ _
    injection hv with hv
    injection hv with h1 _ _
    omega
end Go.Proofs.YtcodncddaemhlaaDoor
