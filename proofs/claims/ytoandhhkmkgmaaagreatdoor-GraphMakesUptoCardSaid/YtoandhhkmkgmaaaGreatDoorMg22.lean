/- Contracts that the law's proof leans on, and plain lemmas to them, merged. No condition beyond each contract's own hypotheses. -/
import Derived.Test.YtoandhhkmkgmaaaGreatDoorMg20
import Derived.Test.YtoandhhkmkgmaaaGreatDoorMg21
import Derived.Test.YtoandhhkmkgmaaaGreatDoorMg10
namespace Go.Proofs.YtoandhhkmkgmaaaGreatDoor
open Go.RowKit Go.Lib

theorem cell_belowF {w w' : World} {B : Nat} {v : Value} (h : w.cell? ⟨B, 0, none⟩ = some v) (h0 : B < w.heap.size) (hb : Below w.heap.size w w') : w'.cell? ⟨B, 0, none⟩ = some v := (hb.cell (p := ⟨B, 0, none⟩) h0).trans h
theorem dot_app (b : List UInt8) : (⟨#[46]⟩ : ByteArray) ++ (⟨b.toArray⟩ : ByteArray) = ⟨(46 :: b).toArray⟩ := by
 apply ByteArray.ext
 rw [ByteArray.data_append]
 simp
abbrev InfT := List UInt8 × List UInt8
def pairP (s : List UInt8) : Option InfT := match splitC 46 s with
 | [a, b, c] => if a = [] ∧ b ≠ [] ∧ c ≠ [] ∧ (47 : UInt8) ∉ s then some (46 :: b, 46 :: c) else none
 | _ => none
theorem pairP_len {s : List UInt8} (h : (splitC 46 s).length ≠ 3) : pairP s = none := by
 unfold pairP
 split
 ·rename_i e; rw [e] at h; exact absurd rfl h
 ·rfl
theorem pairP_no {s a b c : List UInt8} (h : splitC 46 s = [a, b, c]) (hn : ¬ (a = [] ∧ b ≠ [] ∧ c ≠ [] ∧ (47 : UInt8) ∉ s)) : pairP s = none := by
 unfold pairP
 rw [h]
 exact if_neg hn
theorem pairP_is {s a b c : List UInt8} (h : splitC 46 s = [a, b, c]) (hn : a = [] ∧ b ≠ [] ∧ c ≠ [] ∧ (47 : UInt8) ∉ s) : pairP s = some (46 :: b, 46 :: c) := by
 unfold pairP
 rw [h]
 exact if_pos hn
theorem emp_no {x : List UInt8} (h : x ≠ []) : (⟨x.toArray⟩ : ByteArray).toList.isEmpty = false := by
 rw [Lib.toList_data]
 cases x with
 | nil => exact absurd rfl h
 | cons _ _ => rfl
theorem emp_yes {x : List UInt8} (h : x = []) : (⟨x.toArray⟩ : ByteArray).toList.isEmpty = true := by rw [h, Lib.toList_data]; rfl
def PairPost (s : List UInt8) (w : World) (e : Ending) (w' : World) : Prop :=
 Below w.heap.size w w' ∧ ∃ a b : List UInt8, (a, b) = (pairP s).getD ([], []) ∧ e = .returned (.tuple #[.agg #[sv a, sv b], .bool (pairP s).isSome])
set_option maxRecDepth 100000 in
set_option maxHeartbeats 1000000 in
theorem fPair_len (s : List UInt8) (hl : s.length ≤ 1048576) (mx : Int) (w : World) (hm : w.cell? ⟨1, 0, none⟩ = some (.int .i64 mx)) (h0 : 1 < w.heap.size) (h3 : (splitC 46 s).length ≠ 3) : Calls Tryz.prog 85 #[sv s] w (PairPost s w) := by
 have HSP := Lib.hid (fun W (hb : Below w.heap.size w W) => split_any 46 s mx W (by omega) (cell_belowF hm h0 hb))
 have HCT := Lib.hid (fun W (hb : Below w.heap.size w W) => contains_any 47 s mx W (by omega) (cell_belowF hm h0 hb))
 have HBK := Lib.hid (show Blk (w.alloc (.cells #[.string ⟨#[]⟩, .string ⟨#[]⟩] 85)) w.heap.size 85 [.string ⟨#[]⟩, .string ⟨#[]⟩] from Blk.new w _ _)
 have HB0 := Lib.hid (below_new (Below.refl w.heap.size w) (.cells #[.string ⟨#[]⟩, .string ⟨#[]⟩] 85))
 clear hl hm h0
 show Calls _ _ #[.string ⟨s.toArray⟩] _ _
 have HD := Lib.hid (pairP_len h3)
 have q1 : (((splitC 46 s).length : Int) != 3) = true := by simp; omega
 clear h3
 generalize (splitC 46 s).length = L at *
 generalize ((splitC 46 s).map sv).toArray = X at *
 go_enter Tryz.func85, Tryz.ntmps85
 go_upto_region 1 with fail
 generalize w.alloc (.cells #[.string ⟨#[]⟩, .string ⟨#[]⟩] 85) = w0 at *
 generalize hbs : (⟨s.toArray⟩ : ByteArray) = bs at *
 have HBS := Lib.hid hbs
 clear hbs
 go_wp2_with fail
 refine (HSP.out _ HB0.out).mono ?_
 rintro e w1 ⟨rfl, hw1⟩
 have hb1 : Below w0.heap.size w0 w1 := hw1 ▸ below_new (Below.refl w0.heap.size w0) _
 have HB1 := Lib.hid (below_then HB0.out hb1)
 have HK1 := Lib.hid (HBK.out.below hb1 HBK.out.lt)
 clear hb1 hw1
 have hc0 := HK1.out.cell (j := 0) rfl
 have hc1 := HK1.out.cell (j := 1) rfl
 have hf0 := HK1.out.free 0
 have hf1 := HK1.out.free 1
 go_wp2_with fail
 have RZ := Lib.hid ((HK1.out.same 0 (.string ⟨#[]⟩)).same 1 (.string ⟨#[]⟩))
 have BZ := Lib.hid ((HB1.out.setCell (p := ⟨w.heap.size, 0, none⟩) (Nat.le_refl _) (.string ⟨#[]⟩)).setCell (p := ⟨w.heap.size, 1, none⟩) (Nat.le_refl _) (.string ⟨#[]⟩))
 generalize (w1.setCell ⟨w.heap.size, 0, none⟩ (.string ⟨#[]⟩)).setCell ⟨w.heap.size, 1, none⟩ (.string ⟨#[]⟩) = wz at *
 have q1 := RZ.out.cell (j := 0) rfl
 have q2 := RZ.out.cell (j := 1) rfl
 refine bodyPost_ret (v := .tuple #[.agg #[.string ⟨#[]⟩, .string ⟨#[]⟩], .bool false]) (by simp [results, Tryz.results85, go_sem, q1, q2]) rfl ?_
 exact ⟨BZ.out, [], [], by rw [HD.out]; rfl, by rw [HD.out]; rfl⟩
set_option maxRecDepth 100000 in
set_option maxHeartbeats 1000000 in
theorem fPair_a (s : List UInt8) (hl : s.length ≤ 1048576) (mx : Int) (w : World) (hm : w.cell? ⟨1, 0, none⟩ = some (.int .i64 mx)) (h0 : 1 < w.heap.size) {a b c : List UInt8} (h3 : splitC 46 s = [a, b, c]) (ha : a ≠ []) : Calls Tryz.prog 85 #[sv s] w (PairPost s w) := by
 have HSP := Lib.hid (fun W (hb : Below w.heap.size w W) => split_any 46 s mx W (by omega) (cell_belowF hm h0 hb))
 have HCT := Lib.hid (fun W (hb : Below w.heap.size w W) => contains_any 47 s mx W (by omega) (cell_belowF hm h0 hb))
 have HBK := Lib.hid (show Blk (w.alloc (.cells #[.string ⟨#[]⟩, .string ⟨#[]⟩] 85)) w.heap.size 85 [.string ⟨#[]⟩, .string ⟨#[]⟩] from Blk.new w _ _)
 have HB0 := Lib.hid (below_new (Below.refl w.heap.size w) (.cells #[.string ⟨#[]⟩, .string ⟨#[]⟩] 85))
 clear hl hm h0
 show Calls _ _ #[.string ⟨s.toArray⟩] _ _
 have HD := Lib.hid (pairP_no h3 (fun h => ha h.1))
 have qa := emp_no ha
 clear ha
 have HSC := Lib.hid (show ((splitC 46 s).map sv).toArray = #[sv a, sv b, sv c] by rw [h3]; rfl)
 have hlen : (splitC 46 s).length = 3 := by rw [h3]; rfl
 rw [hlen] at HSP
 clear h3 hlen
 go_enter Tryz.func85, Tryz.ntmps85
 go_upto_region 1 with fail
 generalize w.alloc (.cells #[.string ⟨#[]⟩, .string ⟨#[]⟩] 85) = w0 at *
 generalize hbs : (⟨s.toArray⟩ : ByteArray) = bs at *
 have HBS := Lib.hid hbs
 clear hbs
 go_wp2_with fail
 refine (HSP.out _ HB0.out).mono ?_
 rintro e w1 ⟨rfl, hw1⟩
 have hb1 : Below w0.heap.size w0 w1 := hw1 ▸ below_new (Below.refl w0.heap.size w0) _
 have HB1 := Lib.hid (below_then HB0.out hb1)
 have HK1 := Lib.hid (HBK.out.below hb1 HBK.out.lt)
 have HR1 : Hid (Blk w1 w0.heap.size 9 [sv a, sv b, sv c]) := Lib.hid (by rw [hw1, HSC.out]; exact Blk.new w0 _ _)
 have ca : w1.cell? ⟨w0.heap.size, 0, none⟩ = some (.string ⟨a.toArray⟩) := HR1.out.cell (j := 0) rfl
 have cb : w1.cell? ⟨w0.heap.size, 1, none⟩ = some (.string ⟨b.toArray⟩) := HR1.out.cell (j := 1) rfl
 have cc : w1.cell? ⟨w0.heap.size, 2, none⟩ = some (.string ⟨c.toArray⟩) := HR1.out.cell (j := 2) rfl
 clear hb1 hw1
 generalize w0.heap.size = k0 at *
 generalize hxa : (⟨a.toArray⟩ : ByteArray) = xa at *
 generalize hxb : (⟨b.toArray⟩ : ByteArray) = xb at *
 generalize hxc : (⟨c.toArray⟩ : ByteArray) = xc at *
 have HXB := Lib.hid hxb
 have HXC := Lib.hid hxc
 clear hxa hxb hxc
 have hc0 := HK1.out.cell (j := 0) rfl
 have hc1 := HK1.out.cell (j := 1) rfl
 have hf0 := HK1.out.free 0
 have hf1 := HK1.out.free 1
 go_wp2_with fail
 have RZ := Lib.hid ((HK1.out.same 0 (.string ⟨#[]⟩)).same 1 (.string ⟨#[]⟩))
 have BZ := Lib.hid ((HB1.out.setCell (p := ⟨w.heap.size, 0, none⟩) (Nat.le_refl _) (.string ⟨#[]⟩)).setCell (p := ⟨w.heap.size, 1, none⟩) (Nat.le_refl _) (.string ⟨#[]⟩))
 generalize (w1.setCell ⟨w.heap.size, 0, none⟩ (.string ⟨#[]⟩)).setCell ⟨w.heap.size, 1, none⟩ (.string ⟨#[]⟩) = wz at *
 have q1 := RZ.out.cell (j := 0) rfl
 have q2 := RZ.out.cell (j := 1) rfl
 refine bodyPost_ret (v := .tuple #[.agg #[.string ⟨#[]⟩, .string ⟨#[]⟩], .bool false]) (by simp [results, Tryz.results85, go_sem, q1, q2]) rfl ?_
 exact ⟨BZ.out, [], [], by rw [HD.out]; rfl, by rw [HD.out]; rfl⟩
set_option maxRecDepth 100000 in
set_option maxHeartbeats 1000000 in
theorem fPair_b (s : List UInt8) (hl : s.length ≤ 1048576) (mx : Int) (w : World) (hm : w.cell? ⟨1, 0, none⟩ = some (.int .i64 mx)) (h0 : 1 < w.heap.size) {a b c : List UInt8} (h3 : splitC 46 s = [a, b, c]) (ha : a = []) (hb : b = []) : Calls Tryz.prog 85 #[sv s] w (PairPost s w) := by
 have HSP := Lib.hid (fun W (hb : Below w.heap.size w W) => split_any 46 s mx W (by omega) (cell_belowF hm h0 hb))
 have HCT := Lib.hid (fun W (hb : Below w.heap.size w W) => contains_any 47 s mx W (by omega) (cell_belowF hm h0 hb))
 have HBK := Lib.hid (show Blk (w.alloc (.cells #[.string ⟨#[]⟩, .string ⟨#[]⟩] 85)) w.heap.size 85 [.string ⟨#[]⟩, .string ⟨#[]⟩] from Blk.new w _ _)
 have HB0 := Lib.hid (below_new (Below.refl w.heap.size w) (.cells #[.string ⟨#[]⟩, .string ⟨#[]⟩] 85))
 clear hl hm h0
 show Calls _ _ #[.string ⟨s.toArray⟩] _ _
 have HD := Lib.hid (pairP_no h3 (fun h => h.2.1 hb))
 have qa := emp_yes ha
 have qb := emp_yes hb
 clear ha hb
 have HSC := Lib.hid (show ((splitC 46 s).map sv).toArray = #[sv a, sv b, sv c] by rw [h3]; rfl)
 have hlen : (splitC 46 s).length = 3 := by rw [h3]; rfl
 rw [hlen] at HSP
 clear h3 hlen
 go_enter Tryz.func85, Tryz.ntmps85
 go_upto_region 1 with fail
 generalize w.alloc (.cells #[.string ⟨#[]⟩, .string ⟨#[]⟩] 85) = w0 at *
 generalize hbs : (⟨s.toArray⟩ : ByteArray) = bs at *
 have HBS := Lib.hid hbs
 clear hbs
 go_wp2_with fail
 refine (HSP.out _ HB0.out).mono ?_
 rintro e w1 ⟨rfl, hw1⟩
 have hb1 : Below w0.heap.size w0 w1 := hw1 ▸ below_new (Below.refl w0.heap.size w0) _
 have HB1 := Lib.hid (below_then HB0.out hb1)
 have HK1 := Lib.hid (HBK.out.below hb1 HBK.out.lt)
 have HR1 : Hid (Blk w1 w0.heap.size 9 [sv a, sv b, sv c]) := Lib.hid (by rw [hw1, HSC.out]; exact Blk.new w0 _ _)
 have ca : w1.cell? ⟨w0.heap.size, 0, none⟩ = some (.string ⟨a.toArray⟩) := HR1.out.cell (j := 0) rfl
 have cb : w1.cell? ⟨w0.heap.size, 1, none⟩ = some (.string ⟨b.toArray⟩) := HR1.out.cell (j := 1) rfl
 have cc : w1.cell? ⟨w0.heap.size, 2, none⟩ = some (.string ⟨c.toArray⟩) := HR1.out.cell (j := 2) rfl
 clear hb1 hw1
 generalize w0.heap.size = k0 at *
 generalize hxa : (⟨a.toArray⟩ : ByteArray) = xa at *
 generalize hxb : (⟨b.toArray⟩ : ByteArray) = xb at *
 generalize hxc : (⟨c.toArray⟩ : ByteArray) = xc at *
 have HXB := Lib.hid hxb
 have HXC := Lib.hid hxc
 clear hxa hxb hxc
 have hc0 := HK1.out.cell (j := 0) rfl
 have hc1 := HK1.out.cell (j := 1) rfl
 have hf0 := HK1.out.free 0
 have hf1 := HK1.out.free 1
 go_wp2_with fail
 have RZ := Lib.hid ((HK1.out.same 0 (.string ⟨#[]⟩)).same 1 (.string ⟨#[]⟩))
 have BZ := Lib.hid ((HB1.out.setCell (p := ⟨w.heap.size, 0, none⟩) (Nat.le_refl _) (.string ⟨#[]⟩)).setCell (p := ⟨w.heap.size, 1, none⟩) (Nat.le_refl _) (.string ⟨#[]⟩))
 generalize (w1.setCell ⟨w.heap.size, 0, none⟩ (.string ⟨#[]⟩)).setCell ⟨w.heap.size, 1, none⟩ (.string ⟨#[]⟩) = wz at *
 have q1 := RZ.out.cell (j := 0) rfl
 have q2 := RZ.out.cell (j := 1) rfl
 refine bodyPost_ret (v := .tuple #[.agg #[.string ⟨#[]⟩, .string ⟨#[]⟩], .bool false]) (by simp [results, Tryz.results85, go_sem, q1, q2]) rfl ?_
 exact ⟨BZ.out, [], [], by rw [HD.out]; rfl, by rw [HD.out]; rfl⟩
set_option maxRecDepth 100000 in
set_option maxHeartbeats 1000000 in
theorem fPair_c (s : List UInt8) (hl : s.length ≤ 1048576) (mx : Int) (w : World) (hm : w.cell? ⟨1, 0, none⟩ = some (.int .i64 mx)) (h0 : 1 < w.heap.size) {a b c : List UInt8} (h3 : splitC 46 s = [a, b, c]) (ha : a = []) (hb : b ≠ []) (hc : c = []) : Calls Tryz.prog 85 #[sv s] w (PairPost s w) := by
 have HSP := Lib.hid (fun W (hb : Below w.heap.size w W) => split_any 46 s mx W (by omega) (cell_belowF hm h0 hb))
 have HCT := Lib.hid (fun W (hb : Below w.heap.size w W) => contains_any 47 s mx W (by omega) (cell_belowF hm h0 hb))
 have HBK := Lib.hid (show Blk (w.alloc (.cells #[.string ⟨#[]⟩, .string ⟨#[]⟩] 85)) w.heap.size 85 [.string ⟨#[]⟩, .string ⟨#[]⟩] from Blk.new w _ _)
 have HB0 := Lib.hid (below_new (Below.refl w.heap.size w) (.cells #[.string ⟨#[]⟩, .string ⟨#[]⟩] 85))
 clear hl hm h0
 show Calls _ _ #[.string ⟨s.toArray⟩] _ _
 have HD := Lib.hid (pairP_no h3 (fun h => h.2.2.1 hc))
 have qa := emp_yes ha
 have qb := emp_no hb
 have qc := emp_yes hc
 clear ha hb hc
 have HSC := Lib.hid (show ((splitC 46 s).map sv).toArray = #[sv a, sv b, sv c] by rw [h3]; rfl)
 have hlen : (splitC 46 s).length = 3 := by rw [h3]; rfl
 rw [hlen] at HSP
 clear h3 hlen
 go_enter Tryz.func85, Tryz.ntmps85
 go_upto_region 1 with fail
 generalize w.alloc (.cells #[.string ⟨#[]⟩, .string ⟨#[]⟩] 85) = w0 at *
 generalize hbs : (⟨s.toArray⟩ : ByteArray) = bs at *
 have HBS := Lib.hid hbs
 clear hbs
 go_wp2_with fail
 refine (HSP.out _ HB0.out).mono ?_
 rintro e w1 ⟨rfl, hw1⟩
 have hb1 : Below w0.heap.size w0 w1 := hw1 ▸ below_new (Below.refl w0.heap.size w0) _
 have HB1 := Lib.hid (below_then HB0.out hb1)
 have HK1 := Lib.hid (HBK.out.below hb1 HBK.out.lt)
 have HR1 : Hid (Blk w1 w0.heap.size 9 [sv a, sv b, sv c]) := Lib.hid (by rw [hw1, HSC.out]; exact Blk.new w0 _ _)
 have ca : w1.cell? ⟨w0.heap.size, 0, none⟩ = some (.string ⟨a.toArray⟩) := HR1.out.cell (j := 0) rfl
 have cb : w1.cell? ⟨w0.heap.size, 1, none⟩ = some (.string ⟨b.toArray⟩) := HR1.out.cell (j := 1) rfl
 have cc : w1.cell? ⟨w0.heap.size, 2, none⟩ = some (.string ⟨c.toArray⟩) := HR1.out.cell (j := 2) rfl
 clear hb1 hw1
 generalize w0.heap.size = k0 at *
 generalize hxa : (⟨a.toArray⟩ : ByteArray) = xa at *
 generalize hxb : (⟨b.toArray⟩ : ByteArray) = xb at *
 generalize hxc : (⟨c.toArray⟩ : ByteArray) = xc at *
 have HXB := Lib.hid hxb
 have HXC := Lib.hid hxc
 clear hxa hxb hxc
 have hc0 := HK1.out.cell (j := 0) rfl
 have hc1 := HK1.out.cell (j := 1) rfl
 have hf0 := HK1.out.free 0
 have hf1 := HK1.out.free 1
 go_wp2_with fail
 have RZ := Lib.hid ((HK1.out.same 0 (.string ⟨#[]⟩)).same 1 (.string ⟨#[]⟩))
 have BZ := Lib.hid ((HB1.out.setCell (p := ⟨w.heap.size, 0, none⟩) (Nat.le_refl _) (.string ⟨#[]⟩)).setCell (p := ⟨w.heap.size, 1, none⟩) (Nat.le_refl _) (.string ⟨#[]⟩))
 generalize (w1.setCell ⟨w.heap.size, 0, none⟩ (.string ⟨#[]⟩)).setCell ⟨w.heap.size, 1, none⟩ (.string ⟨#[]⟩) = wz at *
 have q1 := RZ.out.cell (j := 0) rfl
 have q2 := RZ.out.cell (j := 1) rfl
 refine bodyPost_ret (v := .tuple #[.agg #[.string ⟨#[]⟩, .string ⟨#[]⟩], .bool false]) (by simp [results, Tryz.results85, go_sem, q1, q2]) rfl ?_
 exact ⟨BZ.out, [], [], by rw [HD.out]; rfl, by rw [HD.out]; rfl⟩
set_option maxRecDepth 100000 in
set_option maxHeartbeats 1000000 in
theorem fPair_s (s : List UInt8) (hl : s.length ≤ 1048576) (mx : Int) (w : World) (hm : w.cell? ⟨1, 0, none⟩ = some (.int .i64 mx)) (h0 : 1 < w.heap.size) {a b c : List UInt8} (h3 : splitC 46 s = [a, b, c]) (ha : a = []) (hb : b ≠ []) (hc : c ≠ []) (hs : (47 : UInt8) ∈ s) : Calls Tryz.prog 85 #[sv s] w (PairPost s w) := by
 have HSP := Lib.hid (fun W (hb : Below w.heap.size w W) => split_any 46 s mx W (by omega) (cell_belowF hm h0 hb))
 have HCT := Lib.hid (fun W (hb : Below w.heap.size w W) => contains_any 47 s mx W (by omega) (cell_belowF hm h0 hb))
 have HBK := Lib.hid (show Blk (w.alloc (.cells #[.string ⟨#[]⟩, .string ⟨#[]⟩] 85)) w.heap.size 85 [.string ⟨#[]⟩, .string ⟨#[]⟩] from Blk.new w _ _)
 have HB0 := Lib.hid (below_new (Below.refl w.heap.size w) (.cells #[.string ⟨#[]⟩, .string ⟨#[]⟩] 85))
 clear hl hm h0
 show Calls _ _ #[.string ⟨s.toArray⟩] _ _
 have HD := Lib.hid (pairP_no h3 (fun h => h.2.2.2 hs))
 have qa := emp_yes ha
 have qb := emp_no hb
 have qc := emp_no hc
 rw [show decide ((47 : UInt8) ∈ s) = true from decide_eq_true hs] at HCT
 clear ha hb hc hs
 have HSC := Lib.hid (show ((splitC 46 s).map sv).toArray = #[sv a, sv b, sv c] by rw [h3]; rfl)
 have hlen : (splitC 46 s).length = 3 := by rw [h3]; rfl
 rw [hlen] at HSP
 clear h3 hlen
 go_enter Tryz.func85, Tryz.ntmps85
 go_upto_region 1 with fail
 generalize w.alloc (.cells #[.string ⟨#[]⟩, .string ⟨#[]⟩] 85) = w0 at *
 generalize hbs : (⟨s.toArray⟩ : ByteArray) = bs at *
 have HBS := Lib.hid hbs
 clear hbs
 go_wp2_with fail
 refine (HSP.out _ HB0.out).mono ?_
 rintro e w1 ⟨rfl, hw1⟩
 have hb1 : Below w0.heap.size w0 w1 := hw1 ▸ below_new (Below.refl w0.heap.size w0) _
 have HB1 := Lib.hid (below_then HB0.out hb1)
 have HK1 := Lib.hid (HBK.out.below hb1 HBK.out.lt)
 have HR1 : Hid (Blk w1 w0.heap.size 9 [sv a, sv b, sv c]) := Lib.hid (by rw [hw1, HSC.out]; exact Blk.new w0 _ _)
 have ca : w1.cell? ⟨w0.heap.size, 0, none⟩ = some (.string ⟨a.toArray⟩) := HR1.out.cell (j := 0) rfl
 have cb : w1.cell? ⟨w0.heap.size, 1, none⟩ = some (.string ⟨b.toArray⟩) := HR1.out.cell (j := 1) rfl
 have cc : w1.cell? ⟨w0.heap.size, 2, none⟩ = some (.string ⟨c.toArray⟩) := HR1.out.cell (j := 2) rfl
 clear hb1 hw1
 generalize w0.heap.size = k0 at *
 generalize hxa : (⟨a.toArray⟩ : ByteArray) = xa at *
 generalize hxb : (⟨b.toArray⟩ : ByteArray) = xb at *
 generalize hxc : (⟨c.toArray⟩ : ByteArray) = xc at *
 have HXB := Lib.hid hxb
 have HXC := Lib.hid hxc
 clear hxa hxb hxc
 have hc0 := HK1.out.cell (j := 0) rfl
 have hc1 := HK1.out.cell (j := 1) rfl
 have hf0 := HK1.out.free 0
 have hf1 := HK1.out.free 1
 go_wp2_with fail
 refine (HCT.out _ HB1.out).mono ?_
 rintro e w2 ⟨rfl, hw2⟩
 rw [hw2]
 clear hw2
 go_wp2_with fail
 have RZ := Lib.hid ((HK1.out.same 0 (.string ⟨#[]⟩)).same 1 (.string ⟨#[]⟩))
 have BZ := Lib.hid ((HB1.out.setCell (p := ⟨w.heap.size, 0, none⟩) (Nat.le_refl _) (.string ⟨#[]⟩)).setCell (p := ⟨w.heap.size, 1, none⟩) (Nat.le_refl _) (.string ⟨#[]⟩))
 generalize (w1.setCell ⟨w.heap.size, 0, none⟩ (.string ⟨#[]⟩)).setCell ⟨w.heap.size, 1, none⟩ (.string ⟨#[]⟩) = wz at *
 have q1 := RZ.out.cell (j := 0) rfl
 have q2 := RZ.out.cell (j := 1) rfl
 refine bodyPost_ret (v := .tuple #[.agg #[.string ⟨#[]⟩, .string ⟨#[]⟩], .bool false]) (by simp [results, Tryz.results85, go_sem, q1, q2]) rfl ?_
 exact ⟨BZ.out, [], [], by rw [HD.out]; rfl, by rw [HD.out]; rfl⟩
set_option maxRecDepth 100000 in
set_option maxHeartbeats 1000000 in
theorem fPair_is (s : List UInt8) (hl : s.length ≤ 1048576) (mx : Int) (w : World) (hm : w.cell? ⟨1, 0, none⟩ = some (.int .i64 mx)) (h0 : 1 < w.heap.size) {a b c : List UInt8} (h3 : splitC 46 s = [a, b, c]) (ha : a = []) (hb : b ≠ []) (hc : c ≠ []) (hs : (47 : UInt8) ∉ s) : Calls Tryz.prog 85 #[sv s] w (PairPost s w) := by
 have sb : ¬ 9223372036854775807 < 1 + (⟨b.toArray⟩ : ByteArray).size := by
  have := splitC_le 46 s b (by rw [h3]; simp)
  simp only [ByteArray.size, List.size_toArray]
  omega
 have sc : ¬ 9223372036854775807 < 1 + (⟨c.toArray⟩ : ByteArray).size := by
  have := splitC_le 46 s c (by rw [h3]; simp)
  simp only [ByteArray.size, List.size_toArray]
  omega
 have HSP := Lib.hid (fun W (hb : Below w.heap.size w W) => split_any 46 s mx W (by omega) (cell_belowF hm h0 hb))
 have HCT := Lib.hid (fun W (hb : Below w.heap.size w W) => contains_any 47 s mx W (by omega) (cell_belowF hm h0 hb))
 have HBK := Lib.hid (show Blk (w.alloc (.cells #[.string ⟨#[]⟩, .string ⟨#[]⟩] 85)) w.heap.size 85 [.string ⟨#[]⟩, .string ⟨#[]⟩] from Blk.new w _ _)
 have HB0 := Lib.hid (below_new (Below.refl w.heap.size w) (.cells #[.string ⟨#[]⟩, .string ⟨#[]⟩] 85))
 clear hl hm h0
 show Calls _ _ #[.string ⟨s.toArray⟩] _ _
 have HD := Lib.hid (pairP_is h3 ⟨ha, hb, hc, hs⟩)
 have qa := emp_yes ha
 have qb := emp_no hb
 have qc := emp_no hc
 rw [show decide ((47 : UInt8) ∈ s) = false from decide_eq_false hs] at HCT
 clear ha hb hc hs
 have HSC := Lib.hid (show ((splitC 46 s).map sv).toArray = #[sv a, sv b, sv c] by rw [h3]; rfl)
 have hlen : (splitC 46 s).length = 3 := by rw [h3]; rfl
 rw [hlen] at HSP
 clear h3 hlen
 go_enter Tryz.func85, Tryz.ntmps85
 go_upto_region 1 with fail
 generalize w.alloc (.cells #[.string ⟨#[]⟩, .string ⟨#[]⟩] 85) = w0 at *
 generalize hbs : (⟨s.toArray⟩ : ByteArray) = bs at *
 have HBS := Lib.hid hbs
 clear hbs
 go_wp2_with fail
 refine (HSP.out _ HB0.out).mono ?_
 rintro e w1 ⟨rfl, hw1⟩
 have hb1 : Below w0.heap.size w0 w1 := hw1 ▸ below_new (Below.refl w0.heap.size w0) _
 have HB1 := Lib.hid (below_then HB0.out hb1)
 have HK1 := Lib.hid (HBK.out.below hb1 HBK.out.lt)
 have HR1 : Hid (Blk w1 w0.heap.size 9 [sv a, sv b, sv c]) := Lib.hid (by rw [hw1, HSC.out]; exact Blk.new w0 _ _)
 have ca : w1.cell? ⟨w0.heap.size, 0, none⟩ = some (.string ⟨a.toArray⟩) := HR1.out.cell (j := 0) rfl
 have cb : w1.cell? ⟨w0.heap.size, 1, none⟩ = some (.string ⟨b.toArray⟩) := HR1.out.cell (j := 1) rfl
 have cc : w1.cell? ⟨w0.heap.size, 2, none⟩ = some (.string ⟨c.toArray⟩) := HR1.out.cell (j := 2) rfl
 clear hb1 hw1
 generalize w0.heap.size = k0 at *
 generalize hxa : (⟨a.toArray⟩ : ByteArray) = xa at *
 generalize hxb : (⟨b.toArray⟩ : ByteArray) = xb at *
 generalize hxc : (⟨c.toArray⟩ : ByteArray) = xc at *
 have HXB := Lib.hid hxb
 have HXC := Lib.hid hxc
 clear hxa hxb hxc
 have hc0 := HK1.out.cell (j := 0) rfl
 have hc1 := HK1.out.cell (j := 1) rfl
 have hf0 := HK1.out.free 0
 have hf1 := HK1.out.free 1
 go_wp2_with fail
 refine (HCT.out _ HB1.out).mono ?_
 rintro e w2 ⟨rfl, hw2⟩
 rw [hw2]
 clear hw2
 go_wp2_with fail
 go_region
 go_wp2_with fail
 have hyb : sv (46 :: b) = .string ((⟨#[46]⟩ : ByteArray) ++ xb) := by rw [← HXB.out, dot_app]; rfl
 have hyc : sv (46 :: c) = .string ((⟨#[46]⟩ : ByteArray) ++ xc) := by rw [← HXC.out, dot_app]; rfl
 generalize (⟨#[46]⟩ : ByteArray) ++ xb = yb at *
 generalize (⟨#[46]⟩ : ByteArray) ++ xc = yc at *
 have RZ := Lib.hid ((HK1.out.same 0 (.string yb)).same 1 (.string yc)).drw
 have BZ := Lib.hid (((HB1.out.setCell (p := ⟨w.heap.size, 0, none⟩) (Nat.le_refl _) (.string yb)).setCell (p := ⟨w.heap.size, 1, none⟩) (Nat.le_refl _) (.string yc)).drew)
 generalize ((w1.setCell ⟨w.heap.size, 0, none⟩ (.string yb)).setCell ⟨w.heap.size, 1, none⟩ (.string yc)).drew = wz at *
 have q1 := RZ.out.cell (j := 0) rfl
 have q2 := RZ.out.cell (j := 1) rfl
 refine bodyPost_ret (v := .tuple #[.agg #[.string yb, .string yc], .bool true]) (by simp [results, Tryz.results85, go_sem, q1, q2]) rfl ?_
 exact ⟨BZ.out, 46 :: b, 46 :: c, by rw [HD.out]; rfl, by rw [HD.out, hyb, hyc]; rfl⟩
theorem fPair_any (s : List UInt8) (hl : s.length ≤ 1048576) (mx : Int) (w : World) (hm : w.cell? ⟨1, 0, none⟩ = some (.int .i64 mx)) (h0 : 1 < w.heap.size) : Calls Tryz.prog 85 #[sv s] w (PairPost s w) := by
 by_cases h3 : (splitC 46 s).length = 3
 ·obtain ⟨a, b, c, h3⟩ : ∃ a b c, splitC 46 s = [a, b, c] := by
   match hh : splitC 46 s, h3 with
   | [a, b, c], _ => exact ⟨a, b, c, rfl⟩
  by_cases ha : a = []
  ·by_cases hb : b = []
   ·exact fPair_b s hl mx w hm h0 h3 ha hb
   ·by_cases hc : c = []
    ·exact fPair_c s hl mx w hm h0 h3 ha hb hc
    ·by_cases hs : (47 : UInt8) ∈ s
     ·exact fPair_s s hl mx w hm h0 h3 ha hb hc hs
     ·exact fPair_is s hl mx w hm h0 h3 ha hb hc hs
  ·exact fPair_a s hl mx w hm h0 h3 ha
 ·exact fPair_len s hl mx w hm h0 h3
end Go.Proofs.YtoandhhkmkgmaaaGreatDoor
namespace Go.Proofs.YtoandhhkmkgmaaaGreatDoor
open Go.RowKit Go.Lib

theorem defined_58 {s : List UInt8} {k : Nat} (h1 : s[k]? = some 58) (h3 : ∀ x ∈ s.take k, x ≠ 61 ∧ x ≠ 58) : definedP s = none := by
 unfold definedP
 rw [if_neg]
 rintro ⟨e1, e2⟩
 apply e2
 have hlt : s.idxOf 61 < s.length := List.idxOf_lt_length_of_mem e1
 have hat : s[s.idxOf 61]? = some 61 := by rw [List.getElem?_eq_getElem hlt, List.getElem_idxOf hlt]
 rcases Nat.lt_trichotomy (s.idxOf 61) k with h | h | h
 ·exact absurd rfl (h3 61 (List.mem_of_getElem? (i := s.idxOf 61) (by rw [List.getElem?_take, if_pos h]; exact hat))).1
 ·rw [h, h1] at hat; cases hat
 ·exact List.mem_of_getElem? (i := k) (by rw [List.getElem?_take, if_pos h]; exact h1)
theorem defined_61 {s : List UInt8} {k : Nat} (h1 : s[k]? = some 61) (h3 : ∀ x ∈ s.take k, x ≠ 61 ∧ x ≠ 58) : definedP s = some (trimBL (s.take k), trimBL (s.drop (k + 1))) := by
 have hn : (61 : UInt8) ∉ s.take k := fun e => (h3 61 e).1 rfl
 unfold definedP
 rw [idx_at h1 hn, if_pos ⟨List.mem_of_getElem? h1, fun e => (h3 58 e).2 rfl⟩]
theorem defined_no {s : List UInt8} (h : ∀ x ∈ s, x ≠ 61 ∧ x ≠ 58) : definedP s = none := by
 unfold definedP
 rw [if_neg fun e => (h 61 e.1).1 rfl]
theorem byte_neF {c : UInt8} {n : Nat} {hn : n < 256} (h : c ≠ UInt8.ofNatLT n hn) : ((c.toNat : Int) == (n : Int)) = false := by
 rw [beq_eq_false_iff_ne]
 intro e
 apply h
 have : c.toNat = n := by omega
 subst this
 simp
theorem take_allF {p : UInt8 → Prop} {s : List UInt8} {k : Nat} {c : UInt8} (h : s[k]? = some c) (hc : p c) (ht : ∀ x ∈ s.take k, p x) : ∀ x ∈ s.take (k + 1), p x := by
 rw [List.take_add_one, h]
 intro x hx
 rcases List.mem_append.1 hx with hx | hx
 ·exact ht x hx
 ·simp at hx; rw [hx]; exact hc
set_option maxRecDepth 100000 in
set_option maxHeartbeats 4000000 in
theorem rDefined_any (s : List UInt8) (hl : s.length ≤ 1048640) (w : World) : Calls Tryz.prog 39 #[sv s] w (DefPost s w) := by
 have HL := Lib.hid hl
 have HS := Lib.hid (strIsL s)
 have HBK := Lib.hid (show Blk (w.alloc (.cells #[.string ⟨#[]⟩, .string ⟨#[]⟩] 71)) w.heap.size 71 [.string ⟨#[]⟩, .string ⟨#[]⟩] from Blk.new w _ _)
 have HB0 := Lib.hid (below_new (Below.refl w.heap.size w) (.cells #[.string ⟨#[]⟩, .string ⟨#[]⟩] 71))
 have CT := Lib.hid (fun k W => rTrimmed_any (s.take k) (by have := List.length_take (i := k) (l := s); omega) W)
 have CD := Lib.hid (fun k W => rTrimmed_any (s.drop k) (by have := List.length_drop (i := k) (l := s); omega) W)
 have HET := Lib.hid (fun i => ext_takeL (strIsL s) i)
 have HED := Lib.hid (fun i => ext_dropL (strIsL s) i)
 show Calls _ _ #[.string ⟨s.toArray⟩] _ _
 have hsz : (⟨s.toArray⟩ : ByteArray).size = s.length := rfl
 have HAT : Hid (∀ k (h : k < (⟨s.toArray⟩ : ByteArray).size) c, s[k]? = some c → (⟨s.toArray⟩ : ByteArray)[k]'h = c) := Lib.hid fun k h c hc => by
  have := at_list (s := ⟨s.toArray⟩) h
  rw [show (⟨s.toArray⟩ : ByteArray).data.toList = s from rfl, hc] at this
  cases this
  rfl
 generalize hbs : (⟨s.toArray⟩ : ByteArray) = bs at *
 have HSZ := Lib.hid hsz
 have hbig : bs.size ≤ 1048640 := by omega
 clear hbs hl hsz
 go_enter Tryz.func39, Tryz.ntmps39
 go_upto_region 1 with fail
 generalize w.alloc (.cells #[.string ⟨#[]⟩, .string ⟨#[]⟩] 71) = w0 at *
 have hc0 := HBK.out.cell (j := 0) rfl
 have hc1 := HBK.out.cell (j := 1) rfl
 have hf0 := HBK.out.free 0
 have hf1 := HBK.out.free 1
 go_wp2_with fail
 go_loop [4, 7] (fun _ i => ∃ k : Nat, k ≤ bs.size ∧ i = .int .i64 (k : Int) ∧ Hid (∀ x ∈ s.take k, x ≠ 61 ∧ x ≠ 58)) (fun _ i => bs.size - (intOf i).toNat)
 case atStart => exact ⟨0, by omega, rfl, Lib.hid (by simp)⟩
 case round =>
  obtain ⟨k, hk, rfl, HA⟩ := hrel
  by_cases hlt : k < bs.size
  ·obtain ⟨c, hc⟩ : ∃ c, s[k]? = some c := ⟨_, List.getElem?_eq_getElem (by rw [← HSZ.out]; exact hlt)⟩
   have hy : bs[k]'hlt = c := HAT.out k hlt c hc
   have HC := Lib.hid hc
   have k0 : (0 : Int) ≤ (k : Int) := by omega
   have k1 : (k : Int) < (bs.size : Int) := by omega
   clear hc
   by_cases h58 : c = 58
   ·subst h58
    have HD := Lib.hid (defined_58 HC.out HA.out)
    go_wp2_with fail
    have RZ := Lib.hid ((HBK.out.same 0 (.string ⟨#[]⟩)).same 1 (.string ⟨#[]⟩))
    have BZ := Lib.hid ((HB0.out.setCell (p := ⟨w.heap.size, 0, none⟩) (Nat.le_refl _) (.string ⟨#[]⟩)).setCell (p := ⟨w.heap.size, 1, none⟩) (Nat.le_refl _) (.string ⟨#[]⟩))
    generalize (w0.setCell ⟨w.heap.size, 0, none⟩ (.string ⟨#[]⟩)).setCell ⟨w.heap.size, 1, none⟩ (.string ⟨#[]⟩) = wz at *
    have q1 := RZ.out.cell (j := 0) rfl
    have q2 := RZ.out.cell (j := 1) rfl
    refine bodyPost_ret (v := .tuple #[.agg #[.string ⟨#[]⟩, .string ⟨#[]⟩], .bool false]) (by simp [results, Tryz.results39, go_sem, q1, q2]) rfl ?_
    exact ⟨BZ.out, [], [], by rw [HD.out]; rfl, by rw [HD.out]; rfl⟩
   ·by_cases h61 : c = 61
    ·subst h61
     have HD := Lib.hid (defined_61 HC.out HA.out)
     have CT2 := Lib.hid (fun W => CT.out k W)
     have CD2 := Lib.hid (fun W => CD.out (k + 1) W)
     rw [← HET.out k] at CT2
     rw [← HED.out (k + 1)] at CD2
     obtain ⟨x1, hx1⟩ : ∃ x1, bs.extract 0 k = x1 := ⟨_, rfl⟩
     obtain ⟨x2, hx2⟩ : ∃ x2, bs.extract (k + 1) bs.size = x2 := ⟨_, rfl⟩
     rw [hx1] at CT2
     rw [hx2] at CD2
     have hk2 : (k : Int) + 1 ≤ (bs.size : Int) := by omega
     have hk3 : (0 : Int) ≤ (k : Int) + 1 := by omega
     have hk4 : (k : Int) ≤ (bs.size : Int) := by omega
     have hkw : IntKind.i64.wrap ((k : Int) + 1) = (k : Int) + 1 := by rw [IntKind.wrap_i64]; omega
     generalize hN : trimBL (s.take k) = N at *
     generalize hV : trimBL (s.drop (k + 1)) = V at *
     generalize hxn : (⟨N.toArray⟩ : ByteArray) = xn at *
     generalize hxv : (⟨V.toArray⟩ : ByteArray) = xv at *
     have HXN := Lib.hid hxn
     have HXV := Lib.hid hxv
     clear hN hV hxn hxv
     go_wp2_with fail
     go_region_held3 (fun _ => True)
      (trivial)
      ((first
        | (go_at_call 87; (with_reducible refine (CT2.out _).mono ?_); rintro e u1 ⟨rfl, rfl⟩)
        | (go_at_call 87; (with_reducible refine (CD2.out _).mono ?_); rintro e u2 ⟨rfl, rfl⟩)))
     go_wp2_with fail
     have RZ := Lib.hid ((HBK.out.same 0 (.string xn)).same 1 (.string xv)).drw
     have BZ := Lib.hid (((HB0.out.setCell (p := ⟨w.heap.size, 0, none⟩) (Nat.le_refl _) (.string xn)).setCell (p := ⟨w.heap.size, 1, none⟩) (Nat.le_refl _) (.string xv)).drew)
     generalize ((w0.setCell ⟨w.heap.size, 0, none⟩ (.string xn)).setCell ⟨w.heap.size, 1, none⟩ (.string xv)).drew = wz at *
     have q1 := RZ.out.cell (j := 0) rfl
     have q2 := RZ.out.cell (j := 1) rfl
     refine bodyPost_ret (v := .tuple #[.agg #[.string xn, .string xv], .bool true]) (by simp [results, Tryz.results39, go_sem, q1, q2]) rfl ?_
     exact ⟨BZ.out, N, V, by rw [HD.out]; rfl, by rw [HD.out, ← HXN.out, ← HXV.out]; rfl⟩
    ·have e1 : ((c.toNat : Int) == 58) = false := byte_neF h58
     have e2 : ((c.toNat : Int) == 61) = false := byte_neF h61
     go_wp2_with fail
     go_round
     case rel => exact ⟨k + 1, by omega, by go_num, Lib.hid (take_allF (p := fun x => x ≠ 61 ∧ x ≠ 58) HC.out ⟨h61, h58⟩ HA.out)⟩
     case measure => simp [intOf]; omega
  ·obtain rfl : k = bs.size := by omega
   have HD := Lib.hid (defined_no (s := s) (by have := HA.out; rwa [HSZ.out, List.take_length] at this))
   go_wp2_with fail
   have RZ := Lib.hid ((HBK.out.same 0 (.string ⟨#[]⟩)).same 1 (.string ⟨#[]⟩))
   have BZ := Lib.hid ((HB0.out.setCell (p := ⟨w.heap.size, 0, none⟩) (Nat.le_refl _) (.string ⟨#[]⟩)).setCell (p := ⟨w.heap.size, 1, none⟩) (Nat.le_refl _) (.string ⟨#[]⟩))
   generalize (w0.setCell ⟨w.heap.size, 0, none⟩ (.string ⟨#[]⟩)).setCell ⟨w.heap.size, 1, none⟩ (.string ⟨#[]⟩) = wz at *
   have q1 := RZ.out.cell (j := 0) rfl
   have q2 := RZ.out.cell (j := 1) rfl
   refine bodyPost_ret (v := .tuple #[.agg #[.string ⟨#[]⟩, .string ⟨#[]⟩], .bool false]) (by simp [results, Tryz.results39, go_sem, q1, q2]) rfl ?_
   exact ⟨BZ.out, [], [], by rw [HD.out]; rfl, by rw [HD.out]; rfl⟩
end Go.Proofs.YtoandhhkmkgmaaaGreatDoor
namespace Go.Proofs.YtoandhhkmkgmaaaGreatDoor
open Go.RowKit Go.Lib

theorem splitC_each (c : UInt8) : ∀ s, ∀ x ∈ splitC c s, c ∉ x := by
 intro s
 induction s with
 | nil => intro x hx; unfold splitC at hx; simp at hx; subst hx; simp
 | cons b r ih =>
   intro x hx
   rw [splitC_cons] at hx
   split at hx
   ·rcases List.mem_cons.1 hx with rfl | hx
    ·simp
    ·exact ih x hx
   ·rename_i hb
    cases hs : splitC c r with
    | nil => exact absurd hs (splitC_ne c r)
    | cons y l =>
      rw [hs] at hx ih
      rcases List.mem_cons.1 hx with rfl | hx
      ·intro h
       rcases List.mem_cons.1 h with h | h
       ·exact hb h.symm
       ·exact ih y (List.mem_cons_self ..) h
      ·exact ih x (List.mem_cons_of_mem _ hx)
theorem pairP_some {s : List UInt8} {p : InfT} (h : pairP s = some p) : ∃ b c, s = 46 :: b ++ 46 :: c ∧ (46 : UInt8) ∉ b ∧ (46 : UInt8) ∉ c ∧ b ≠ [] ∧ c ≠ [] ∧ (47 : UInt8) ∉ s ∧ p = (46 :: b, 46 :: c) := by
 unfold pairP at h
 split at h
 ·rename_i a b c heq
  split at h
  ·rename_i hc
   injection h with h
   have hj := joinC_splitC 46 s
   have he := splitC_each 46 s
   rw [heq] at hj he
   rw [hc.1] at hj
   refine ⟨b, c, ?_, he b (by simp), he c (by simp), hc.2.1, hc.2.2.1, hc.2.2.2, h.symm⟩
   rw [← hj]
   simp [joinC]
  ·cases h
 ·cases h
theorem pairP_of {s b c : List UInt8} (h : s = 46 :: b ++ 46 :: c) (hb : (46 : UInt8) ∉ b) (hc : (46 : UInt8) ∉ c) (hb0 : b ≠ []) (hc0 : c ≠ []) (h47 : (47 : UInt8) ∉ s) : pairP s = some (46 :: b, 46 :: c) := by
 have e : splitC 46 s = [[], b, c] := by
  rw [h, show (46 : UInt8) :: b ++ 46 :: c = [] ++ 46 :: (b ++ 46 :: c) from by simp, splitC_app _ (by simp), splitC_app _ hb, splitC_free hc]
 exact pairP_is e ⟨rfl, hb0, hc0, h47⟩
theorem dot_at {b c : List UInt8} : (46 :: b ++ 46 :: c : List UInt8)[b.length + 1]? = some 46 := by
 rw [List.getElem?_append_right (by simp)]
 simp
theorem dot_only {b c : List UInt8} (hb : (46 : UInt8) ∉ b) (hc : (46 : UInt8) ∉ c) {i : Nat} (h : (46 :: b ++ 46 :: c : List UInt8)[i]? = some 46) : i = 0 ∨ i = b.length + 1 := by
 cases i with
 | zero => exact .inl rfl
 | succ i =>
   right
   rw [List.cons_append, List.getElem?_cons_succ] at h
   by_cases hi : i < b.length
   ·rw [List.getElem?_append_left hi] at h
    exact absurd (List.mem_of_getElem? h) hb
   ·rw [List.getElem?_append_right (by omega)] at h
    cases hk : i - b.length with
    | zero => omega
    | succ k =>
      rw [hk, List.getElem?_cons_succ] at h
      exact absurd (List.mem_of_getElem? h) hc
structure DotR (s : List UInt8) (k sec : Nat) : Prop where
 no : ∀ x ∈ s.take k, x ≠ 47
 one : ∀ i, 0 < i → i < k → s[i]? = some 46 → i = sec
 is : sec ≠ 0 → sec < k ∧ s[sec]? = some 46
theorem DotR.start (s : List UInt8) : DotR s 0 0 := ⟨by simp, fun i _ h => by omega, fun h => absurd rfl h⟩
theorem DotR.skip {s : List UInt8} {k sec : Nat} {c : UInt8} (h : DotR s k sec) (hc : s[k]? = some c) (h47 : c ≠ 47) (hd : k = 0 ∨ c ≠ 46) : DotR s (k + 1) sec :=
 ⟨take_allF (p := fun x => x ≠ 47) hc h47 h.no, fun i h0 hi hs => by
  rcases Nat.lt_or_ge i k with hl | hl
  ·exact h.one i h0 hl hs
  ·obtain rfl : i = k := by omega
   rw [hc] at hs
   injection hs with hs
   rcases hd with hd | hd
   ·omega
   ·exact absurd hs hd, fun h0 => ⟨by have := (h.is h0).1; omega, (h.is h0).2⟩⟩
theorem DotR.dot {s : List UInt8} {k : Nat} (h : DotR s k 0) (hc : s[k]? = some 46) : DotR s (k + 1) k :=
 ⟨take_allF (p := fun x => x ≠ 47) hc (by decide) h.no, fun i h0 hi hs => by
  rcases Nat.lt_or_ge i k with hl | hl
  ·have := h.one i h0 hl hs; omega
  ·omega, fun _ => ⟨by omega, hc⟩⟩
theorem pair_slash {s : List UInt8} {k : Nat} (hc : s[k]? = some 47) : pairP s = none := by
 cases hp : pairP s with
 | none => rfl
 | some p =>
   obtain ⟨b, c, _, _, _, _, _, h, _⟩ := pairP_some hp
   exact absurd (List.mem_of_getElem? hc) h
theorem pair_two {s : List UInt8} {i j : Nat} (h0 : 0 < i) (hij : i < j) (hi : s[i]? = some 46) (hj : s[j]? = some 46) : pairP s = none := by
 cases hp : pairP s with
 | none => rfl
 | some p =>
   obtain ⟨b, c, hs, hb, hc, _⟩ := pairP_some hp
   rw [hs] at hi hj
   have h1 := dot_only hb hc hi
   have h2 := dot_only hb hc hj
   omega
theorem pair_bad {s : List UInt8} {sec : Nat} (h : DotR s s.length sec) (hb : s = [] ∨ (∃ c, s[0]? = some c ∧ c ≠ 46) ∨ sec < 2 ∨ sec + 1 = s.length) : pairP s = none := by
 cases hp : pairP s with
 | none => rfl
 | some p =>
   obtain ⟨b, c, hs, h1, h2, h3, h4, h5, _⟩ := pairP_some hp
   have hbl : 0 < b.length := List.length_pos_iff.2 h3
   have hcl : 0 < c.length := List.length_pos_iff.2 h4
   have hd : s[b.length + 1]? = some 46 := by rw [hs]; exact dot_at
   have hlen : s.length = b.length + c.length + 2 := by rw [hs]; simp; omega
   have he := h.one (b.length + 1) (by omega) (by omega) hd
   rcases hb with hb | ⟨c', hb, hn⟩ | hb | hb
   ·rw [hb] at hlen; simp at hlen
   ·rw [hs] at hb
    simp at hb
    exact absurd hb.symm hn
   ·omega
   ·omega
theorem pair_good {s : List UInt8} {sec : Nat} (h : DotR s s.length sec) (h0 : s[0]? = some 46) (h2 : 2 ≤ sec) (hl : sec + 1 ≠ s.length) : pairP s = some (s.take sec, s.drop sec) := by
 obtain ⟨g1, g2⟩ := h.is (by omega)
 obtain ⟨t, rfl⟩ : ∃ t, s = 46 :: t := by
  cases s with
  | nil => cases h0
  | cons x t => simp at h0; exact ⟨t, by rw [h0]⟩
 obtain ⟨q, rfl⟩ : ∃ q, sec = q + 1 := ⟨sec - 1, by omega⟩
 simp only [List.length_cons, List.getElem?_cons_succ] at g1 g2 hl
 have hdec : t = t.take q ++ 46 :: t.drop (q + 1) := by
  conv => lhs; rw [← List.take_append_drop q t]
  congr 1
  have hq : q < t.length := by omega
  rw [List.drop_eq_getElem_cons hq]
  rw [List.getElem?_eq_getElem hq] at g2
  injection g2 with g2
  rw [g2]
 have hone := h.one
 have hb : (46 : UInt8) ∉ t.take q := fun hm => by
  obtain ⟨i, hi⟩ := List.mem_iff_getElem?.1 hm
  rw [List.getElem?_take] at hi
  split at hi
  ·have := hone (i + 1) (by omega) (by simp; omega) (by simpa using hi)
   omega
  ·cases hi
 have hc : (46 : UInt8) ∉ t.drop (q + 1) := fun hm => by
  obtain ⟨i, hi⟩ := List.mem_iff_getElem?.1 hm
  rw [List.getElem?_drop] at hi
  have hlt := (List.getElem?_eq_some_iff.1 hi).1
  have := hone (q + 1 + i + 1) (by omega) (by simp; omega) (by simpa using hi)
  omega
 have h47 : (47 : UInt8) ∉ (46 :: t) := fun hm => h.no 47 (by rw [List.take_of_length_le (Nat.le_refl _)]; exact hm) rfl
 have hp := pairP_of (s := 46 :: t) (b := t.take q) (c := t.drop (q + 1)) (by rw [List.cons_append, ← hdec]) hb hc (by
  intro e; have := congrArg List.length e; rw [List.length_take, List.length_nil] at this; omega) (by
  intro e; have := congrArg List.length e; rw [List.length_drop, List.length_nil] at this; omega) h47
 rw [hp]
 congr 1
 refine Prod.ext ?_ ?_
 ·simp
 ·simp only [List.drop_succ_cons]
  have hq : q < t.length := by omega
  rw [List.drop_eq_getElem_cons hq]
  rw [List.getElem?_eq_getElem hq] at g2
  injection g2 with g2
  rw [g2]
set_option maxRecDepth 100000 in
set_option maxHeartbeats 4000000 in
theorem rPair_any (s : List UInt8) (hl : s.length ≤ 1048640) (w : World) : Calls Tryz.prog 44 #[sv s] w (PairPost s w) := by
 have HL := Lib.hid hl
 have HBK := Lib.hid (show Blk (w.alloc (.cells #[.string ⟨#[]⟩, .string ⟨#[]⟩] 85)) w.heap.size 85 [.string ⟨#[]⟩, .string ⟨#[]⟩] from Blk.new w _ _)
 have HB0 := Lib.hid (below_new (Below.refl w.heap.size w) (.cells #[.string ⟨#[]⟩, .string ⟨#[]⟩] 85))
 have HET := Lib.hid (fun i => ext_takeL (strIsL s) i)
 have HED := Lib.hid (fun i => ext_dropL (strIsL s) i)
 show Calls _ _ #[.string ⟨s.toArray⟩] _ _
 have hsz : (⟨s.toArray⟩ : ByteArray).size = s.length := rfl
 have hemp : (⟨s.toArray⟩ : ByteArray).toList.isEmpty = decide (s = []) := by rw [Lib.toList_data]; cases s <;> simp
 have HAT : Hid (∀ k (h : k < (⟨s.toArray⟩ : ByteArray).size) c, s[k]? = some c → (⟨s.toArray⟩ : ByteArray)[k]'h = c) := Lib.hid fun k h c hc => by
  have := at_list (s := ⟨s.toArray⟩) h
  rw [show (⟨s.toArray⟩ : ByteArray).data.toList = s from rfl, hc] at this
  cases this
  rfl
 generalize hbs : (⟨s.toArray⟩ : ByteArray) = bs at *
 have HSZ := Lib.hid hsz
 have HEMP := Lib.hid hemp
 have hbig : bs.size ≤ 1048640 := by omega
 clear hbs hl hsz hemp
 go_enter Tryz.func44, Tryz.ntmps44
 go_upto_region 1 with fail
 generalize w.alloc (.cells #[.string ⟨#[]⟩, .string ⟨#[]⟩] 85) = w0 at *
 have hc0 := HBK.out.cell (j := 0) rfl
 have hc1 := HBK.out.cell (j := 1) rfl
 have hf0 := HBK.out.free 0
 have hf1 := HBK.out.free 1
 have RN := Lib.hid ((HBK.out.same 0 (.string ⟨#[]⟩)).same 1 (.string ⟨#[]⟩))
 have BN := Lib.hid ((HB0.out.setCell (p := ⟨w.heap.size, 0, none⟩) (Nat.le_refl _) (.string ⟨#[]⟩)).setCell (p := ⟨w.heap.size, 1, none⟩) (Nat.le_refl _) (.string ⟨#[]⟩))
 go_wp2_with fail
 go_loop [4, 5, 8] (fun x _ i => ∃ k sec : Nat, k ≤ bs.size ∧ i = .int .i64 (k : Int) ∧ x = .int .i64 (sec : Int) ∧ sec ≤ k ∧ Hid (DotR s k sec)) (fun _ _ i => bs.size - (intOf i).toNat)
 case atStart => exact ⟨0, 0, by omega, rfl, rfl, by omega, Lib.hid (DotR.start s)⟩
 case round =>
  obtain ⟨k, sec, hk, rfl, rfl, hsk, HA⟩ := hrel
  by_cases hlt : k < bs.size
  ·obtain ⟨c, hc⟩ : ∃ c, s[k]? = some c := ⟨_, List.getElem?_eq_getElem (by rw [← HSZ.out]; exact hlt)⟩
   have hy : bs[k]'hlt = c := HAT.out k hlt c hc
   have HC := Lib.hid hc
   have k0 : (0 : Int) ≤ (k : Int) := by omega
   have k1 : (k : Int) < (bs.size : Int) := by omega
   clear hc
   by_cases h47 : c = 47
   ·subst h47
    have HD := Lib.hid (pair_slash HC.out)
    go_wp2_with fail
    generalize (w0.setCell ⟨w.heap.size, 0, none⟩ (.string ⟨#[]⟩)).setCell ⟨w.heap.size, 1, none⟩ (.string ⟨#[]⟩) = wz at *
    have q1 := RN.out.cell (j := 0) rfl
    have q2 := RN.out.cell (j := 1) rfl
    refine bodyPost_ret (v := .tuple #[.agg #[.string ⟨#[]⟩, .string ⟨#[]⟩], .bool false]) (by simp [results, Tryz.results44, go_sem, q1, q2]) rfl ?_
    exact ⟨BN.out, [], [], by rw [HD.out]; rfl, by rw [HD.out]; rfl⟩
   ·have e1 : ((c.toNat : Int) == 47) = false := byte_neF h47
    have H47 := Lib.hid h47
    by_cases hk0 : k = 0
    ·subst hk0
     go_wp2_with fail
     go_round
     case rel => exact ⟨1, sec, by omega, rfl, rfl, by omega, Lib.hid (HA.out.skip HC.out H47.out (.inl rfl))⟩
     case measure => simp [intOf]; omega
    ·have g0 : decide ((0 : Int) < (k : Int)) = true := by simp; omega
     by_cases h46 : c = 46
     ·subst h46
      by_cases hs0 : sec = 0
      ·subst hs0
       go_wp2_with fail
       go_round
       case rel => exact ⟨k + 1, k, by omega, by go_num, rfl, by omega, Lib.hid (HA.out.dot HC.out)⟩
       case measure => simp [intOf]; omega
      ·have g1 : decide ((0 : Int) < (sec : Int)) = true := by simp; omega
       have HD := Lib.hid (pair_two (by omega) (HA.out.is hs0).1 (HA.out.is hs0).2 HC.out)
       go_wp2_with fail
       generalize (w0.setCell ⟨w.heap.size, 0, none⟩ (.string ⟨#[]⟩)).setCell ⟨w.heap.size, 1, none⟩ (.string ⟨#[]⟩) = wz at *
       have q1 := RN.out.cell (j := 0) rfl
       have q2 := RN.out.cell (j := 1) rfl
       refine bodyPost_ret (v := .tuple #[.agg #[.string ⟨#[]⟩, .string ⟨#[]⟩], .bool false]) (by simp [results, Tryz.results44, go_sem, q1, q2]) rfl ?_
       exact ⟨BN.out, [], [], by rw [HD.out]; rfl, by rw [HD.out]; rfl⟩
     ·have e2 : ((c.toNat : Int) == 46) = false := byte_neF h46
      go_wp2_with fail
      go_round
      case rel => exact ⟨k + 1, sec, by omega, by go_num, rfl, by omega, Lib.hid (HA.out.skip HC.out H47.out (.inr h46))⟩
      case measure => simp [intOf]; omega
  ·obtain rfl : k = bs.size := by omega
   have HA2 : Hid (DotR s s.length sec) := Lib.hid (by rw [← HSZ.out]; exact HA.out)
   by_cases hs0 : s = []
   ·have HD := Lib.hid (pair_bad HA2.out (.inl hs0))
    have g0 : bs.toList.isEmpty = true := by rw [HEMP.out]; simp [hs0]
    clear hs0
    go_wp2_with fail
    generalize (w0.setCell ⟨w.heap.size, 0, none⟩ (.string ⟨#[]⟩)).setCell ⟨w.heap.size, 1, none⟩ (.string ⟨#[]⟩) = wz at *
    have q1 := RN.out.cell (j := 0) rfl
    have q2 := RN.out.cell (j := 1) rfl
    refine bodyPost_ret (v := .tuple #[.agg #[.string ⟨#[]⟩, .string ⟨#[]⟩], .bool false]) (by simp [results, Tryz.results44, go_sem, q1, q2]) rfl ?_
    exact ⟨BN.out, [], [], by rw [HD.out]; rfl, by rw [HD.out]; rfl⟩
   ·have g0 : bs.toList.isEmpty = false := by rw [HEMP.out]; simp [hs0]
    have hlen : 0 < bs.size := by rw [HSZ.out]; exact List.length_pos_iff.2 hs0
    have hlenI : (0 : Int) < (bs.size : Int) := by omega
    obtain ⟨c, hc⟩ : ∃ c, s[0]? = some c := ⟨_, List.getElem?_eq_getElem (by rw [← HSZ.out]; exact hlen)⟩
    have hy : bs[0]'hlen = c := HAT.out 0 hlen c hc
    have HC := Lib.hid hc
    clear hc hs0
    by_cases h46 : c = 46
    ·subst h46
     by_cases h2 : sec < 2
     ·have HD := Lib.hid (pair_bad HA2.out (.inr (.inr (.inl h2))))
      have g2 : decide ((sec : Int) < 2) = true := by simp; omega
      go_wp2_with fail
      generalize (w0.setCell ⟨w.heap.size, 0, none⟩ (.string ⟨#[]⟩)).setCell ⟨w.heap.size, 1, none⟩ (.string ⟨#[]⟩) = wz at *
      have q1 := RN.out.cell (j := 0) rfl
      have q2 := RN.out.cell (j := 1) rfl
      refine bodyPost_ret (v := .tuple #[.agg #[.string ⟨#[]⟩, .string ⟨#[]⟩], .bool false]) (by simp [results, Tryz.results44, go_sem, q1, q2]) rfl ?_
      exact ⟨BN.out, [], [], by rw [HD.out]; rfl, by rw [HD.out]; rfl⟩
     ·have g2 : decide ((sec : Int) < 2) = false := by simp; omega
      by_cases h3 : sec + 1 = bs.size
      ·have HD := Lib.hid (pair_bad HA2.out (.inr (.inr (.inr (by rw [← HSZ.out]; exact h3)))))
       have g3 : ((sec : Int) == (bs.size : Int) - 1) = true := by simp; omega
       go_wp2_with fail
       generalize (w0.setCell ⟨w.heap.size, 0, none⟩ (.string ⟨#[]⟩)).setCell ⟨w.heap.size, 1, none⟩ (.string ⟨#[]⟩) = wz at *
       have q1 := RN.out.cell (j := 0) rfl
       have q2 := RN.out.cell (j := 1) rfl
       refine bodyPost_ret (v := .tuple #[.agg #[.string ⟨#[]⟩, .string ⟨#[]⟩], .bool false]) (by simp [results, Tryz.results44, go_sem, q1, q2]) rfl ?_
       exact ⟨BN.out, [], [], by rw [HD.out]; rfl, by rw [HD.out]; rfl⟩
      ·have HD := Lib.hid (pair_good HA2.out HC.out (by omega) (by rw [← HSZ.out]; exact h3))
       have g3 : ((sec : Int) == (bs.size : Int) - 1) = false := by rw [beq_eq_false_iff_ne]; omega
       have hx1 := HET.out sec
       have hx2 := HED.out sec
       generalize hX : (⟨(s.take sec).toArray⟩ : ByteArray) = x1 at hx1
       generalize hY : (⟨(s.drop sec).toArray⟩ : ByteArray) = x2 at hx2
       have HX := Lib.hid hX
       have HY := Lib.hid hY
       have j0 : (0 : Int) ≤ (sec : Int) := by omega
       have j1 : (sec : Int) ≤ (bs.size : Int) := by omega
       clear hX hY
       go_wp2_with fail
       go_region
       go_wp2_with fail
       have RZ := Lib.hid ((HBK.out.same 0 (.string x1)).same 1 (.string x2)).drw
       have BZ := Lib.hid (((HB0.out.setCell (p := ⟨w.heap.size, 0, none⟩) (Nat.le_refl _) (.string x1)).setCell (p := ⟨w.heap.size, 1, none⟩) (Nat.le_refl _) (.string x2)).drew)
       generalize ((w0.setCell ⟨w.heap.size, 0, none⟩ (.string x1)).setCell ⟨w.heap.size, 1, none⟩ (.string x2)).drew = wz at *
       have q1 := RZ.out.cell (j := 0) rfl
       have q2 := RZ.out.cell (j := 1) rfl
       refine bodyPost_ret (v := .tuple #[.agg #[.string x1, .string x2], .bool true]) (by simp [results, Tryz.results44, go_sem, q1, q2]) rfl ?_
       exact ⟨BZ.out, s.take sec, s.drop sec, by rw [HD.out]; rfl, by rw [HD.out, ← HX.out, ← HY.out]; rfl⟩
    ·have HD := Lib.hid (pair_bad HA2.out (.inr (.inl ⟨c, HC.out, h46⟩)))
     have e2 : ((c.toNat : Int) == 46) = false := byte_neF h46
     have e3 : ((c.toNat : Int) != 46) = true := by rw [bne, e2]; rfl
     go_wp2_with fail
     generalize (w0.setCell ⟨w.heap.size, 0, none⟩ (.string ⟨#[]⟩)).setCell ⟨w.heap.size, 1, none⟩ (.string ⟨#[]⟩) = wz at *
     have q1 := RN.out.cell (j := 0) rfl
     have q2 := RN.out.cell (j := 1) rfl
     refine bodyPost_ret (v := .tuple #[.agg #[.string ⟨#[]⟩, .string ⟨#[]⟩], .bool false]) (by simp [results, Tryz.results44, go_sem, q1, q2]) rfl ?_
     exact ⟨BN.out, [], [], by rw [HD.out]; rfl, by rw [HD.out]; rfl⟩
end Go.Proofs.YtoandhhkmkgmaaaGreatDoor
