/- The guards of the reference's ruled that draw, where they are looked at: each region a theorem of its own. -/
import Derived.Test.YtcodncddaemhlaaDoorNormR1
namespace Go.Proofs.YtcodncddaemhlaaDoor
open Go.RowKit

set_option maxRecDepth 100000 in
set_option maxHeartbeats 4000000 in
theorem yes27 (cd : Code) (hc : rgR 27 = some cd) (v0 : Value) (B : Nat) (t6 t8 : Bool) (k wv pv n np : Int) (b0 off m c : Nat) (kp : Int) (u : Nat → Value) (w : World) (y1 : w.cell? ⟨B, 0, none⟩ = some (.int .i64 k)) (y3 : w.cell? ⟨B, 2, none⟩ = some (.int .i64 n)) (y4 : w.cell? ⟨B, 3, none⟩ = some (.slice (some ⟨b0, off, none⟩) m c)) (hm : (0 : Int) < (m : Int)) (p1 : w.cell? ⟨b0, off, none⟩ = some (.int .i64 kp)) (p3 : w.cell? ⟨b0, off + 2, none⟩ = some (.int .i64 np)) (hn : IntKind.i64.wrap (n + np) = n + np) (K : Act → World → Prop) (Q : Exit → Act → World → Prop)
    (hQ : ∀ (u' : Nat → Value) (w' : World), u' 251 = .bool ((k == pv) && ((kp == pv) && decide (n + np ≤ 100))) → Below w.heap.size w w' → K (FA v0 B false (.int .i64 wv) (.int .i64 pv) (.bool t6) 7 (.bool t8) (.bool true) u') w') :
    cd.wp Tryd.prog (Exit.then K Q) (FA v0 B false (.int .i64 wv) (.int .i64 pv) (.bool t6) 7 (.bool t8) (.bool true) u) w := by
  simp [rgR, rg, Tryd.f18] at hc
  subst hc
  unfold FA frL
  have HQ := Lib.hid hQ
  clear hQ
  by_cases ha : k = pv
  · have hab : (k == pv) = true := beq_iff_eq.2 ha
    have had : decide (k = pv) = true := decide_eq_true ha
    rw [hab] at HQ
    clear ha
    by_cases hb : kp = pv
    · have hbb : (kp == pv) = true := beq_iff_eq.2 hb
      have hbd : decide (kp = pv) = true := decide_eq_true hb
      rw [hbb] at HQ
      clear hb
      by_cases hd : n + np ≤ 100
      · have hdd : decide (n + np ≤ 100) = true := decide_eq_true hd
        rw [hdd] at HQ
        clear hd
        go_quiet (fail)
        go_wp2_with fail
        exact fr_end (K := K) rfl 241 rfl (fun u' h' => HQ.out u' _ h' (below_drewN (Below.refl _ _) _))
      · have hdd : decide (n + np ≤ 100) = false := decide_eq_false hd
        rw [hdd] at HQ
        clear hd
        go_quiet (fail)
        go_wp2_with fail
        exact fr_end (K := K) rfl 241 rfl (fun u' h' => HQ.out u' _ h' (below_drewN (Below.refl _ _) _))
    · have hbb : (kp == pv) = false := beq_eq_false_iff_ne.2 hb
      have hbd : decide (kp = pv) = false := decide_eq_false hb
      rw [hbb] at HQ
      clear hb
      by_cases hd : n + np ≤ 100
      · have hdd : decide (n + np ≤ 100) = true := decide_eq_true hd
        rw [hdd] at HQ
        clear hd
        go_quiet (fail)
        go_wp2_with fail
        exact fr_end (K := K) rfl 241 rfl (fun u' h' => HQ.out u' _ h' (below_drewN (Below.refl _ _) _))
      · have hdd : decide (n + np ≤ 100) = false := decide_eq_false hd
        rw [hdd] at HQ
        clear hd
        go_quiet (fail)
        go_wp2_with fail
        exact fr_end (K := K) rfl 241 rfl (fun u' h' => HQ.out u' _ h' (below_drewN (Below.refl _ _) _))
  · have hab : (k == pv) = false := beq_eq_false_iff_ne.2 ha
    have had : decide (k = pv) = false := decide_eq_false ha
    rw [hab] at HQ
    clear ha
    by_cases hb : kp = pv
    · have hbb : (kp == pv) = true := beq_iff_eq.2 hb
      have hbd : decide (kp = pv) = true := decide_eq_true hb
      rw [hbb] at HQ
      clear hb
      by_cases hd : n + np ≤ 100
      · have hdd : decide (n + np ≤ 100) = true := decide_eq_true hd
        rw [hdd] at HQ
        clear hd
        go_quiet (fail)
        go_wp2_with fail
        exact fr_end (K := K) rfl 241 rfl (fun u' h' => HQ.out u' _ h' (below_drewN (Below.refl _ _) _))
      · have hdd : decide (n + np ≤ 100) = false := decide_eq_false hd
        rw [hdd] at HQ
        clear hd
        go_quiet (fail)
        go_wp2_with fail
        exact fr_end (K := K) rfl 241 rfl (fun u' h' => HQ.out u' _ h' (below_drewN (Below.refl _ _) _))
    · have hbb : (kp == pv) = false := beq_eq_false_iff_ne.2 hb
      have hbd : decide (kp = pv) = false := decide_eq_false hb
      rw [hbb] at HQ
      clear hb
      by_cases hd : n + np ≤ 100
      · have hdd : decide (n + np ≤ 100) = true := decide_eq_true hd
        rw [hdd] at HQ
        clear hd
        go_quiet (fail)
        go_wp2_with fail
        exact fr_end (K := K) rfl 241 rfl (fun u' h' => HQ.out u' _ h' (below_drewN (Below.refl _ _) _))
      · have hdd : decide (n + np ≤ 100) = false := decide_eq_false hd
        rw [hdd] at HQ
        clear hd
        go_quiet (fail)
        go_wp2_with fail
        exact fr_end (K := K) rfl 241 rfl (fun u' h' => HQ.out u' _ h' (below_drewN (Below.refl _ _) _))
set_option maxRecDepth 100000 in
set_option maxHeartbeats 4000000 in
theorem yes29 (cd : Code) (hc : rgR 29 = some cd) (v0 v4 v5 : Value) (B : Nat) (t6 t8 t9 : Bool) (k n np : Int) (bs bp : ByteArray) (b0 off m c : Nat) (kp : Int) (u : Nat → Value) (w : World) (y1 : w.cell? ⟨B, 0, none⟩ = some (.int .i64 k)) (y2 : w.cell? ⟨B, 1, none⟩ = some (.string bs)) (y3 : w.cell? ⟨B, 2, none⟩ = some (.int .i64 n)) (y4 : w.cell? ⟨B, 3, none⟩ = some (.slice (some ⟨b0, off, none⟩) m c)) (hm : (0 : Int) < (m : Int)) (p1 : w.cell? ⟨b0, off, none⟩ = some (.int .i64 kp)) (p2 : w.cell? ⟨b0, off + 1, none⟩ = some (.string bp)) (p3 : w.cell? ⟨b0, off + 2, none⟩ = some (.int .i64 np)) (hk : decide (14 ≤ k) = true) (K : Act → World → Prop) (Q : Exit → Act → World → Prop)
    (hQ : ∀ (u' : Nat → Value) (w' : World), u' 298 = .bool ((kp == k) && ((bp.toList == bs.toList) && (np == n))) → Below w.heap.size w w' → K (FA v0 B false v4 v5 (.bool t6) 8 (.bool t8) (.bool t9) u') w') :
    cd.wp Tryd.prog (Exit.then K Q) (FA v0 B false v4 v5 (.bool t6) 8 (.bool t8) (.bool t9) u) w := by
  simp [rgR, rg, Tryd.f18] at hc
  subst hc
  unfold FA frL
  have HQ := Lib.hid hQ
  clear hQ
  by_cases ha : kp = k
  · have hab : (kp == k) = true := beq_iff_eq.2 ha
    have had : decide (kp = k) = true := decide_eq_true ha
    rw [hab] at HQ
    clear ha
    by_cases hb : (bp.toList == bs.toList) = true
    · rw [hb] at HQ
      by_cases hd : np = n
      · have hdb : (np == n) = true := beq_iff_eq.2 hd
        have hdd : decide (np = n) = true := decide_eq_true hd
        rw [hdb] at HQ
        clear hd
        go_quiet (fail)
        go_wp2_with fail
        exact fr_end (K := K) rfl 288 rfl (fun u' h' => HQ.out u' _ h' (below_drewN (Below.refl _ _) _))
      · have hdb : (np == n) = false := beq_eq_false_iff_ne.2 hd
        have hdd : decide (np = n) = false := decide_eq_false hd
        rw [hdb] at HQ
        clear hd
        go_quiet (fail)
        go_wp2_with fail
        exact fr_end (K := K) rfl 288 rfl (fun u' h' => HQ.out u' _ h' (below_drewN (Below.refl _ _) _))
    · replace hb : (bp.toList == bs.toList) = false := by simpa using hb
      rw [hb] at HQ
      by_cases hd : np = n
      · have hdb : (np == n) = true := beq_iff_eq.2 hd
        have hdd : decide (np = n) = true := decide_eq_true hd
        rw [hdb] at HQ
        clear hd
        go_quiet (fail)
        go_wp2_with fail
        exact fr_end (K := K) rfl 288 rfl (fun u' h' => HQ.out u' _ h' (below_drewN (Below.refl _ _) _))
      · have hdb : (np == n) = false := beq_eq_false_iff_ne.2 hd
        have hdd : decide (np = n) = false := decide_eq_false hd
        rw [hdb] at HQ
        clear hd
        go_quiet (fail)
        go_wp2_with fail
        exact fr_end (K := K) rfl 288 rfl (fun u' h' => HQ.out u' _ h' (below_drewN (Below.refl _ _) _))
  · have hab : (kp == k) = false := beq_eq_false_iff_ne.2 ha
    have had : decide (kp = k) = false := decide_eq_false ha
    rw [hab] at HQ
    clear ha
    by_cases hb : (bp.toList == bs.toList) = true
    · rw [hb] at HQ
      by_cases hd : np = n
      · have hdb : (np == n) = true := beq_iff_eq.2 hd
        have hdd : decide (np = n) = true := decide_eq_true hd
        rw [hdb] at HQ
        clear hd
        go_quiet (fail)
        go_wp2_with fail
        exact fr_end (K := K) rfl 288 rfl (fun u' h' => HQ.out u' _ h' (below_drewN (Below.refl _ _) _))
      · have hdb : (np == n) = false := beq_eq_false_iff_ne.2 hd
        have hdd : decide (np = n) = false := decide_eq_false hd
        rw [hdb] at HQ
        clear hd
        go_quiet (fail)
        go_wp2_with fail
        exact fr_end (K := K) rfl 288 rfl (fun u' h' => HQ.out u' _ h' (below_drewN (Below.refl _ _) _))
    · replace hb : (bp.toList == bs.toList) = false := by simpa using hb
      rw [hb] at HQ
      by_cases hd : np = n
      · have hdb : (np == n) = true := beq_iff_eq.2 hd
        have hdd : decide (np = n) = true := decide_eq_true hd
        rw [hdb] at HQ
        clear hd
        go_quiet (fail)
        go_wp2_with fail
        exact fr_end (K := K) rfl 288 rfl (fun u' h' => HQ.out u' _ h' (below_drewN (Below.refl _ _) _))
      · have hdb : (np == n) = false := beq_eq_false_iff_ne.2 hd
        have hdd : decide (np = n) = false := decide_eq_false hd
        rw [hdb] at HQ
        clear hd
        go_quiet (fail)
        go_wp2_with fail
        exact fr_end (K := K) rfl 288 rfl (fun u' h' => HQ.out u' _ h' (below_drewN (Below.refl _ _) _))
def TextIs (b : ByteArray) (w : World) (e : Ending) (w' : World) : Prop := e = .returned (.string b) ∧ Below w.heap.size w w'
set_option maxRecDepth 100000 in
set_option maxHeartbeats 4000000 in
theorem yes9 (cd : Code) (hc : rgR 9 = some cd) (v0 v4 v5 : Value) (B : Nat) (t6 t9 tt : Bool) (b0 off c : Nat) (kp np : Int) (sp : ByteArray) (Ap : Option Addr) (lp cp : Nat) (kq nq : Int) (sq : ByteArray) (Aq : Option Addr) (lq cq : Nat) (u : Nat → Value) (w : World) (hc1 : ∀ W, Below w.heap.size w W → Calls Tryd.prog 29 #[.agg #[.int .i64 kp, .string sp, .int .i64 np, .slice Ap lp cp], .agg #[.int .i64 kq, .string sq, .int .i64 nq, .slice Aq lq cq]] W (BoolPost tt W)) (h0 : w.cell? ⟨B, 3, none⟩ = some (.slice (some ⟨b0, off, none⟩) 2 c)) (h1 : w.cell? ⟨b0, off, none⟩ = some (.int .i64 kp)) (h2 : w.cell? ⟨b0, off + 1, none⟩ = some (.string sp)) (h3 : w.cell? ⟨b0, off + 2, none⟩ = some (.int .i64 np)) (h4 : w.cell? ⟨b0, off + 3, none⟩ = some (.slice Ap lp cp)) (h5 : w.cell? ⟨b0, off + 4, none⟩ = some (.int .i64 kq)) (h6 : w.cell? ⟨b0, off + 4 + 1, none⟩ = some (.string sq)) (h7 : w.cell? ⟨b0, off + 4 + 2, none⟩ = some (.int .i64 nq)) (h8 : w.cell? ⟨b0, off + 4 + 3, none⟩ = some (.slice Aq lq cq)) (K : Act → World → Prop) (Q : Exit → Act → World → Prop)
    (hQ : ∀ (u' : Nat → Value) (w' : World), u' 34 = .bool tt → Below w.heap.size w w' → K (FA v0 B false v4 v5 (.bool t6) 1 (.bool true) (.bool t9) u') w') :
    cd.wp Tryd.prog (Exit.then K Q) (FA v0 B false v4 v5 (.bool t6) 1 (.bool true) (.bool t9) u) w := by
  simp [rgR, rg, Tryd.f18] at hc
  subst hc
  unfold FA frL
  have HQ := Lib.hid hQ
  clear hQ
  have HSL := Lib.hid (fun W (hW : Below w.heap.size w W) => (⟨cell_keptA h0 hW, cell_keptA h1 hW, cell_keptA h2 hW, cell_keptA h3 hW, cell_keptA h4 hW, cell_keptA h5 hW, cell_keptA h6 hW, cell_keptA h7 hW, cell_keptA h8 hW, hW⟩ : W.cell? ⟨B, 3, none⟩ = some (.slice (some ⟨b0, off, none⟩) 2 c) ∧ W.cell? ⟨b0, off, none⟩ = some (.int .i64 kp) ∧ W.cell? ⟨b0, off + 1, none⟩ = some (.string sp) ∧ W.cell? ⟨b0, off + 2, none⟩ = some (.int .i64 np) ∧ W.cell? ⟨b0, off + 3, none⟩ = some (.slice Ap lp cp) ∧ W.cell? ⟨b0, off + 4, none⟩ = some (.int .i64 kq) ∧ W.cell? ⟨b0, off + 4 + 1, none⟩ = some (.string sq) ∧ W.cell? ⟨b0, off + 4 + 2, none⟩ = some (.int .i64 nq) ∧ W.cell? ⟨b0, off + 4 + 3, none⟩ = some (.slice Aq lq cq) ∧ Below w.heap.size w W))
  have HC1 := Lib.hid hc1
  clear hc1
  have bd : Below w.heap.size w w.drew := Below.drew (Below.refl _ _)
  go_region_held3 (fun W => W.cell? ⟨B, 3, none⟩ = some (.slice (some ⟨b0, off, none⟩) 2 c) ∧ W.cell? ⟨b0, off, none⟩ = some (.int .i64 kp) ∧ W.cell? ⟨b0, off + 1, none⟩ = some (.string sp) ∧ W.cell? ⟨b0, off + 2, none⟩ = some (.int .i64 np) ∧ W.cell? ⟨b0, off + 3, none⟩ = some (.slice Ap lp cp) ∧ W.cell? ⟨b0, off + 4, none⟩ = some (.int .i64 kq) ∧ W.cell? ⟨b0, off + 4 + 1, none⟩ = some (.string sq) ∧ W.cell? ⟨b0, off + 4 + 2, none⟩ = some (.int .i64 nq) ∧ W.cell? ⟨b0, off + 4 + 3, none⟩ = some (.slice Aq lq cq) ∧ Below w.heap.size w W)
    ((refine HSL.out _ ?_; first | assumption | exact Below.drew (by assumption)))
    ((first
      | (go_at_call 29; (with_reducible refine (HC1.out _ (by first | assumption | exact Below.drew (by assumption))).mono ?_); rintro e u0 ⟨rfl, g0⟩; have f0 := below_then (by first | assumption | exact Below.drew (by assumption)) g0)))
  all_goals
    go_wp2_with fail
    exact fr_end (K := K) rfl 24 rfl (fun u' h' => HQ.out u' _ h' (by first | assumption | exact Below.drew (by assumption)))
set_option maxRecDepth 100000 in
set_option maxHeartbeats 4000000 in
theorem yes17 (cd : Code) (hc : rgR 17 = some cd) (v0 v4 v5 : Value) (B : Nat) (t6 t9 : Bool) (b0 off c : Nat) (kp np : Int) (sp : ByteArray) (Ap : Option Addr) (lp cp : Nat) (kq nq : Int) (sq : ByteArray) (Aq : Option Addr) (lq cq : Nat) (tp tq : ByteArray) (u : Nat → Value) (w : World) (hc1 : ∀ W, Below w.heap.size w W → Calls Tryd.prog 30 #[.agg #[.int .i64 kp, .string sp, .int .i64 np, .slice Ap lp cp]] W (TextIs tp W)) (hc2 : ∀ W, Below w.heap.size w W → Calls Tryd.prog 30 #[.agg #[.int .i64 kq, .string sq, .int .i64 nq, .slice Aq lq cq]] W (TextIs tq W)) (h0 : w.cell? ⟨B, 3, none⟩ = some (.slice (some ⟨b0, off, none⟩) 2 c)) (h1 : w.cell? ⟨b0, off, none⟩ = some (.int .i64 kp)) (h2 : w.cell? ⟨b0, off + 1, none⟩ = some (.string sp)) (h3 : w.cell? ⟨b0, off + 2, none⟩ = some (.int .i64 np)) (h4 : w.cell? ⟨b0, off + 3, none⟩ = some (.slice Ap lp cp)) (h5 : w.cell? ⟨b0, off + 4, none⟩ = some (.int .i64 kq)) (h6 : w.cell? ⟨b0, off + 4 + 1, none⟩ = some (.string sq)) (h7 : w.cell? ⟨b0, off + 4 + 2, none⟩ = some (.int .i64 nq)) (h8 : w.cell? ⟨b0, off + 4 + 3, none⟩ = some (.slice Aq lq cq)) (K : Act → World → Prop) (Q : Exit → Act → World → Prop)
    (hQ : ∀ (u' : Nat → Value) (w' : World), u' 122 = .bool (!(Op.bytesLess tp.toList tq.toList) && !(tp.toList == tq.toList)) → Below w.heap.size w w' → K (FA v0 B false v4 v5 (.bool t6) 3 (.bool true) (.bool t9) u') w') :
    cd.wp Tryd.prog (Exit.then K Q) (FA v0 B false v4 v5 (.bool t6) 3 (.bool true) (.bool t9) u) w := by
  simp [rgR, rg, Tryd.f18] at hc
  subst hc
  unfold FA frL
  have HQ := Lib.hid hQ
  clear hQ
  have HSL := Lib.hid (fun W (hW : Below w.heap.size w W) => (⟨cell_keptA h0 hW, cell_keptA h1 hW, cell_keptA h2 hW, cell_keptA h3 hW, cell_keptA h4 hW, cell_keptA h5 hW, cell_keptA h6 hW, cell_keptA h7 hW, cell_keptA h8 hW, hW⟩ : W.cell? ⟨B, 3, none⟩ = some (.slice (some ⟨b0, off, none⟩) 2 c) ∧ W.cell? ⟨b0, off, none⟩ = some (.int .i64 kp) ∧ W.cell? ⟨b0, off + 1, none⟩ = some (.string sp) ∧ W.cell? ⟨b0, off + 2, none⟩ = some (.int .i64 np) ∧ W.cell? ⟨b0, off + 3, none⟩ = some (.slice Ap lp cp) ∧ W.cell? ⟨b0, off + 4, none⟩ = some (.int .i64 kq) ∧ W.cell? ⟨b0, off + 4 + 1, none⟩ = some (.string sq) ∧ W.cell? ⟨b0, off + 4 + 2, none⟩ = some (.int .i64 nq) ∧ W.cell? ⟨b0, off + 4 + 3, none⟩ = some (.slice Aq lq cq) ∧ Below w.heap.size w W))
  have HC1 := Lib.hid hc1
  have HC2 := Lib.hid hc2
  clear hc1 hc2
  have bd : Below w.heap.size w w.drew := Below.drew (Below.refl _ _)
  go_region_held3 (fun W => W.cell? ⟨B, 3, none⟩ = some (.slice (some ⟨b0, off, none⟩) 2 c) ∧ W.cell? ⟨b0, off, none⟩ = some (.int .i64 kp) ∧ W.cell? ⟨b0, off + 1, none⟩ = some (.string sp) ∧ W.cell? ⟨b0, off + 2, none⟩ = some (.int .i64 np) ∧ W.cell? ⟨b0, off + 3, none⟩ = some (.slice Ap lp cp) ∧ W.cell? ⟨b0, off + 4, none⟩ = some (.int .i64 kq) ∧ W.cell? ⟨b0, off + 4 + 1, none⟩ = some (.string sq) ∧ W.cell? ⟨b0, off + 4 + 2, none⟩ = some (.int .i64 nq) ∧ W.cell? ⟨b0, off + 4 + 3, none⟩ = some (.slice Aq lq cq) ∧ Below w.heap.size w W)
    ((refine HSL.out _ ?_; first | assumption | exact Below.drew (by assumption)))
    ((first
      | (go_at_call 30; (with_reducible refine (HC1.out _ (by first | assumption | exact Below.drew (by assumption))).mono ?_); rintro e u0 ⟨rfl, g0⟩; have f0 := below_then (by first | assumption | exact Below.drew (by assumption)) g0)
      | (go_at_call 30; (with_reducible refine (HC2.out _ (by first | assumption | exact Below.drew (by assumption))).mono ?_); rintro e u1 ⟨rfl, g1⟩; have f1 := below_then (by first | assumption | exact Below.drew (by assumption)) g1)))
  all_goals
    go_wp2_with fail
    exact fr_end (K := K) rfl 112 rfl (fun u' h' => HQ.out u' _ h' (by first | assumption | exact Below.drew (by assumption)))
set_option maxRecDepth 100000 in
set_option maxHeartbeats 4000000 in
theorem yes31 (cd : Code) (hc : rgR 31 = some cd) (v0 v4 v5 : Value) (B : Nat) (t6 t8 t9 tt : Bool) (b0 off c b2 of2 : Nat) (cq : Nat) (kp np : Int) (sp : ByteArray) (Ap : Option Addr) (lp cp : Nat) (kr nr : Int) (sr : ByteArray) (Ar : Option Addr) (lr cr : Nat) (u : Nat → Value) (w : World) (hc1 : ∀ W, Below w.heap.size w W → Calls Tryd.prog 29 #[.agg #[.int .i64 kp, .string sp, .int .i64 np, .slice Ap lp cp], .agg #[.int .i64 kr, .string sr, .int .i64 nr, .slice Ar lr cr]] W (BoolPost tt W)) (h0 : w.cell? ⟨B, 0, none⟩ = some (.int .i64 7)) (h1 : w.cell? ⟨B, 3, none⟩ = some (.slice (some ⟨b0, off, none⟩) 2 c)) (h2 : w.cell? ⟨b0, off, none⟩ = some (.int .i64 kp)) (h3 : w.cell? ⟨b0, off + 1, none⟩ = some (.string sp)) (h4 : w.cell? ⟨b0, off + 2, none⟩ = some (.int .i64 np)) (h5 : w.cell? ⟨b0, off + 3, none⟩ = some (.slice Ap lp cp)) (h6 : w.cell? ⟨b0, off + 4, none⟩ = some (.int .i64 7)) (h7 : w.cell? ⟨b0, off + 4 + 3, none⟩ = some (.slice (some ⟨b2, of2, none⟩) 2 cq)) (h8 : w.cell? ⟨b2, of2, none⟩ = some (.int .i64 kr)) (h9 : w.cell? ⟨b2, of2 + 1, none⟩ = some (.string sr)) (h10 : w.cell? ⟨b2, of2 + 2, none⟩ = some (.int .i64 nr)) (h11 : w.cell? ⟨b2, of2 + 3, none⟩ = some (.slice Ar lr cr)) (K : Act → World → Prop) (Q : Exit → Act → World → Prop)
    (hQ : ∀ (u' : Nat → Value) (w' : World), u' 340 = .bool tt → Below w.heap.size w w' → K (FA v0 B false v4 v5 (.bool t6) 9 (.bool t8) (.bool t9) u') w') :
    cd.wp Tryd.prog (Exit.then K Q) (FA v0 B false v4 v5 (.bool t6) 9 (.bool t8) (.bool t9) u) w := by
  simp [rgR, rg, Tryd.f18] at hc
  subst hc
  unfold FA frL
  have HQ := Lib.hid hQ
  clear hQ
  have HSL := Lib.hid (fun W (hW : Below w.heap.size w W) => (⟨cell_keptA h0 hW, cell_keptA h1 hW, cell_keptA h2 hW, cell_keptA h3 hW, cell_keptA h4 hW, cell_keptA h5 hW, cell_keptA h6 hW, cell_keptA h7 hW, cell_keptA h8 hW, cell_keptA h9 hW, cell_keptA h10 hW, cell_keptA h11 hW, hW⟩ : W.cell? ⟨B, 0, none⟩ = some (.int .i64 7) ∧ W.cell? ⟨B, 3, none⟩ = some (.slice (some ⟨b0, off, none⟩) 2 c) ∧ W.cell? ⟨b0, off, none⟩ = some (.int .i64 kp) ∧ W.cell? ⟨b0, off + 1, none⟩ = some (.string sp) ∧ W.cell? ⟨b0, off + 2, none⟩ = some (.int .i64 np) ∧ W.cell? ⟨b0, off + 3, none⟩ = some (.slice Ap lp cp) ∧ W.cell? ⟨b0, off + 4, none⟩ = some (.int .i64 7) ∧ W.cell? ⟨b0, off + 4 + 3, none⟩ = some (.slice (some ⟨b2, of2, none⟩) 2 cq) ∧ W.cell? ⟨b2, of2, none⟩ = some (.int .i64 kr) ∧ W.cell? ⟨b2, of2 + 1, none⟩ = some (.string sr) ∧ W.cell? ⟨b2, of2 + 2, none⟩ = some (.int .i64 nr) ∧ W.cell? ⟨b2, of2 + 3, none⟩ = some (.slice Ar lr cr) ∧ Below w.heap.size w W))
  have HC1 := Lib.hid hc1
  clear hc1
  have bd : Below w.heap.size w w.drew := Below.drew (Below.refl _ _)
  go_region_held3 (fun W => W.cell? ⟨B, 0, none⟩ = some (.int .i64 7) ∧ W.cell? ⟨B, 3, none⟩ = some (.slice (some ⟨b0, off, none⟩) 2 c) ∧ W.cell? ⟨b0, off, none⟩ = some (.int .i64 kp) ∧ W.cell? ⟨b0, off + 1, none⟩ = some (.string sp) ∧ W.cell? ⟨b0, off + 2, none⟩ = some (.int .i64 np) ∧ W.cell? ⟨b0, off + 3, none⟩ = some (.slice Ap lp cp) ∧ W.cell? ⟨b0, off + 4, none⟩ = some (.int .i64 7) ∧ W.cell? ⟨b0, off + 4 + 3, none⟩ = some (.slice (some ⟨b2, of2, none⟩) 2 cq) ∧ W.cell? ⟨b2, of2, none⟩ = some (.int .i64 kr) ∧ W.cell? ⟨b2, of2 + 1, none⟩ = some (.string sr) ∧ W.cell? ⟨b2, of2 + 2, none⟩ = some (.int .i64 nr) ∧ W.cell? ⟨b2, of2 + 3, none⟩ = some (.slice Ar lr cr) ∧ Below w.heap.size w W)
    ((refine HSL.out _ ?_; first | assumption | exact Below.drew (by assumption)))
    ((first
      | (go_at_call 29; (with_reducible refine (HC1.out _ (by first | assumption | exact Below.drew (by assumption))).mono ?_); rintro e u0 ⟨rfl, g0⟩; have f0 := below_then (by first | assumption | exact Below.drew (by assumption)) g0)))
  all_goals
    go_wp2_with fail
    exact fr_end (K := K) rfl 330 rfl (fun u' h' => HQ.out u' _ h' (by first | assumption | exact Below.drew (by assumption)))
set_option maxRecDepth 100000 in
set_option maxHeartbeats 4000000 in
theorem yes311 (cd : Code) (hc : rgR 31 = some cd) (v0 v4 v5 : Value) (B : Nat) (t6 t8 t9 : Bool) (b0 off m c : Nat) (kq : Int) (u : Nat → Value) (w : World) (y1 : w.cell? ⟨B, 0, none⟩ = some (.int .i64 7)) (y4 : w.cell? ⟨B, 3, none⟩ = some (.slice (some ⟨b0, off, none⟩) m c)) (hm : (1 : Int) < (m : Int)) (q1 : w.cell? ⟨b0, off + 4, none⟩ = some (.int .i64 kq)) (hk : ¬ kq = 7) (K : Act → World → Prop) (Q : Exit → Act → World → Prop)
    (hQ : ∀ (u' : Nat → Value) (w' : World), u' 340 = .bool false → Below w.heap.size w w' → K (FA v0 B false v4 v5 (.bool t6) 9 (.bool t8) (.bool t9) u') w') :
    cd.wp Tryd.prog (Exit.then K Q) (FA v0 B false v4 v5 (.bool t6) 9 (.bool t8) (.bool t9) u) w := by
  simp [rgR, rg, Tryd.f18] at hc
  subst hc
  unfold FA frL
  have HQ := Lib.hid hQ
  clear hQ
  have e1 : (kq == 7) = false := by simp [hk]
  have e2 : decide (kq = 7) = false := decide_eq_false hk
  clear hk
  go_quiet (fail)
  go_wp2_with fail
  exact fr_end (K := K) rfl 330 rfl (fun u' h' => HQ.out u' _ h' (below_drewN (Below.refl _ _) _))
end Go.Proofs.YtcodncddaemhlaaDoor
