/- The guards of the reference's ruled where they are false: each region a theorem of its own. -/
import Derived.Test.YtcodncddaemhlaaDoorNormR1
namespace Go.Proofs.YtcodncddaemhlaaDoor
open Go.RowKit

set_option maxRecDepth 100000 in
set_option maxHeartbeats 4000000 in
theorem no9 (cd : Code) (hc : rgR 9 = some cd) (v0 v4 v5 : Value) (B : Nat) (k j : Int) (t6 t8 t9 : Bool) (u : Nat → Value) (w : World) (_y1 : w.cell? ⟨B, 0, none⟩ = some (.int .i64 k)) (hf : j = 1 → t8 = false) (K : Act → World → Prop) (Q : Exit → Act → World → Prop)
    (hQ : ∀ (u' : Nat → Value) (w' : World), u' 34 = .bool false → Below w.heap.size w w' → K (FA v0 B false v4 v5 (.bool t6) j (.bool t8) (.bool t9) u') w') :
    cd.wp Tryd.prog (Exit.then K Q) (FA v0 B false v4 v5 (.bool t6) j (.bool t8) (.bool t9) u) w := by
  simp [rgR, rg, Tryd.f18] at hc
  subst hc
  unfold FA frL
  have HQ := Lib.hid hQ
  clear hQ
  by_cases h : j = 1
  · subst h
    have hf := hf rfl
    subst hf
    go_quiet (fail)
    go_wp2_with fail
    exact fr_end (K := K) rfl 24 rfl (fun u' h' => HQ.out u' _ h' (below_drewN (Below.refl _ _) _))
  · have h1 : (j == 1) = false := by simp [h]
    have h2 : decide (j = 1) = false := decide_eq_false h
    clear hf h
    go_quiet (fail)
    go_wp2_with fail
    exact fr_end (K := K) rfl 24 rfl (fun u' h' => HQ.out u' _ h' (below_drewN (Below.refl _ _) _))
set_option maxRecDepth 100000 in
set_option maxHeartbeats 4000000 in
theorem no11 (cd : Code) (hc : rgR 11 = some cd) (v0 v4 v5 : Value) (B : Nat) (k j : Int) (t6 t8 t9 : Bool) (u : Nat → Value) (w : World) (_y1 : w.cell? ⟨B, 0, none⟩ = some (.int .i64 k)) (hf : j = 2 → t6 = false) (K : Act → World → Prop) (Q : Exit → Act → World → Prop)
    (hQ : ∀ (u' : Nat → Value) (w' : World), u' 55 = .bool false → Below w.heap.size w w' → K (FA v0 B false v4 v5 (.bool t6) j (.bool t8) (.bool t9) u') w') :
    cd.wp Tryd.prog (Exit.then K Q) (FA v0 B false v4 v5 (.bool t6) j (.bool t8) (.bool t9) u) w := by
  simp [rgR, rg, Tryd.f18] at hc
  subst hc
  unfold FA frL
  have HQ := Lib.hid hQ
  clear hQ
  by_cases h : j = 2
  · subst h
    have hf := hf rfl
    subst hf
    go_wp2_with fail
    exact fr_end (K := K) rfl 45 rfl (fun u' h' => HQ.out u' _ h' (Below.refl _ _))
  · have h1 : (j == 2) = false := by simp [h]
    have h2 : decide (j = 2) = false := decide_eq_false h
    clear hf h
    go_wp2_with fail
    exact fr_end (K := K) rfl 45 rfl (fun u' h' => HQ.out u' _ h' (Below.refl _ _))
set_option maxRecDepth 100000 in
set_option maxHeartbeats 4000000 in
theorem no13 (cd : Code) (hc : rgR 13 = some cd) (v0 v4 v5 : Value) (B : Nat) (k j : Int) (t6 t8 t9 : Bool) (u : Nat → Value) (w : World) (_y1 : w.cell? ⟨B, 0, none⟩ = some (.int .i64 k)) (hf : j = 2 → t8 = false ∨ t6 = true) (K : Act → World → Prop) (Q : Exit → Act → World → Prop)
    (hQ : ∀ (u' : Nat → Value) (w' : World), u' 78 = .bool false → Below w.heap.size w w' → K (FA v0 B false v4 v5 (.bool t6) j (.bool t8) (.bool t9) u') w') :
    cd.wp Tryd.prog (Exit.then K Q) (FA v0 B false v4 v5 (.bool t6) j (.bool t8) (.bool t9) u) w := by
  simp [rgR, rg, Tryd.f18] at hc
  subst hc
  unfold FA frL
  have HQ := Lib.hid hQ
  clear hQ
  by_cases h : j = 2
  · subst h
    have hf := hf rfl
    rcases hf with rfl | rfl
    · cases t6
      all_goals
        go_wp2_with fail
        exact fr_end (K := K) rfl 68 rfl (fun u' h' => HQ.out u' _ h' (Below.refl _ _))
    · cases t8
      all_goals
        go_wp2_with fail
        exact fr_end (K := K) rfl 68 rfl (fun u' h' => HQ.out u' _ h' (Below.refl _ _))
  · have h1 : (j == 2) = false := by simp [h]
    have h2 : decide (j = 2) = false := decide_eq_false h
    clear hf h
    go_wp2_with fail
    exact fr_end (K := K) rfl 68 rfl (fun u' h' => HQ.out u' _ h' (Below.refl _ _))
set_option maxRecDepth 100000 in
set_option maxHeartbeats 4000000 in
theorem no15 (cd : Code) (hc : rgR 15 = some cd) (v0 v4 v5 : Value) (B : Nat) (k j : Int) (t6 t8 t9 : Bool) (u : Nat → Value) (w : World) (_y1 : w.cell? ⟨B, 0, none⟩ = some (.int .i64 k)) (hf : j = 2 → t8 = false ∨ t6 = true) (K : Act → World → Prop) (Q : Exit → Act → World → Prop)
    (hQ : ∀ (u' : Nat → Value) (w' : World), u' 100 = .bool false → Below w.heap.size w w' → K (FA v0 B false v4 v5 (.bool t6) j (.bool t8) (.bool t9) u') w') :
    cd.wp Tryd.prog (Exit.then K Q) (FA v0 B false v4 v5 (.bool t6) j (.bool t8) (.bool t9) u) w := by
  simp [rgR, rg, Tryd.f18] at hc
  subst hc
  unfold FA frL
  have HQ := Lib.hid hQ
  clear hQ
  by_cases h : j = 2
  · subst h
    have hf := hf rfl
    rcases hf with rfl | rfl
    · cases t6
      all_goals
        go_wp2_with fail
        exact fr_end (K := K) rfl 90 rfl (fun u' h' => HQ.out u' _ h' (Below.refl _ _))
    · cases t8
      all_goals
        go_wp2_with fail
        exact fr_end (K := K) rfl 90 rfl (fun u' h' => HQ.out u' _ h' (Below.refl _ _))
  · have h1 : (j == 2) = false := by simp [h]
    have h2 : decide (j = 2) = false := decide_eq_false h
    clear hf h
    go_wp2_with fail
    exact fr_end (K := K) rfl 90 rfl (fun u' h' => HQ.out u' _ h' (Below.refl _ _))
set_option maxRecDepth 100000 in
set_option maxHeartbeats 4000000 in
theorem no17 (cd : Code) (hc : rgR 17 = some cd) (v0 v4 v5 : Value) (B : Nat) (k j : Int) (t6 t8 t9 : Bool) (u : Nat → Value) (w : World) (_y1 : w.cell? ⟨B, 0, none⟩ = some (.int .i64 k)) (hf : j = 3 → t8 = false) (K : Act → World → Prop) (Q : Exit → Act → World → Prop)
    (hQ : ∀ (u' : Nat → Value) (w' : World), u' 122 = .bool false → Below w.heap.size w w' → K (FA v0 B false v4 v5 (.bool t6) j (.bool t8) (.bool t9) u') w') :
    cd.wp Tryd.prog (Exit.then K Q) (FA v0 B false v4 v5 (.bool t6) j (.bool t8) (.bool t9) u) w := by
  simp [rgR, rg, Tryd.f18] at hc
  subst hc
  unfold FA frL
  have HQ := Lib.hid hQ
  clear hQ
  by_cases h : j = 3
  · subst h
    have hf := hf rfl
    subst hf
    go_quiet (fail)
    go_wp2_with fail
    exact fr_end (K := K) rfl 112 rfl (fun u' h' => HQ.out u' _ h' (below_drewN (Below.refl _ _) _))
  · have h1 : (j == 3) = false := by simp [h]
    have h2 : decide (j = 3) = false := decide_eq_false h
    clear hf h
    go_quiet (fail)
    go_wp2_with fail
    exact fr_end (K := K) rfl 112 rfl (fun u' h' => HQ.out u' _ h' (below_drewN (Below.refl _ _) _))
set_option maxRecDepth 100000 in
set_option maxHeartbeats 4000000 in
theorem no19 (cd : Code) (hc : rgR 19 = some cd) (v0 v4 v5 : Value) (B : Nat) (k j : Int) (t6 t8 t9 : Bool) (u : Nat → Value) (w : World) (_y1 : w.cell? ⟨B, 0, none⟩ = some (.int .i64 k)) (hf : j = 4 → t9 = false) (K : Act → World → Prop) (Q : Exit → Act → World → Prop)
    (hQ : ∀ (u' : Nat → Value) (w' : World), u' 153 = .bool false → Below w.heap.size w w' → K (FA v0 B false v4 v5 (.bool t6) j (.bool t8) (.bool t9) u') w') :
    cd.wp Tryd.prog (Exit.then K Q) (FA v0 B false v4 v5 (.bool t6) j (.bool t8) (.bool t9) u) w := by
  simp [rgR, rg, Tryd.f18] at hc
  subst hc
  unfold FA frL
  have HQ := Lib.hid hQ
  clear hQ
  by_cases h : j = 4
  · subst h
    have hf := hf rfl
    subst hf
    go_wp2_with fail
    exact fr_end (K := K) rfl 143 rfl (fun u' h' => HQ.out u' _ h' (Below.refl _ _))
  · have h1 : (j == 4) = false := by simp [h]
    have h2 : decide (j = 4) = false := decide_eq_false h
    clear hf h
    go_wp2_with fail
    exact fr_end (K := K) rfl 143 rfl (fun u' h' => HQ.out u' _ h' (Below.refl _ _))
set_option maxRecDepth 100000 in
set_option maxHeartbeats 4000000 in
theorem no21 (cd : Code) (hc : rgR 21 = some cd) (v0 v4 v5 : Value) (B : Nat) (k j : Int) (t6 t8 t9 : Bool) (u : Nat → Value) (w : World) (_y1 : w.cell? ⟨B, 0, none⟩ = some (.int .i64 k)) (hf : j = 5 → t9 = false) (K : Act → World → Prop) (Q : Exit → Act → World → Prop)
    (hQ : ∀ (u' : Nat → Value) (w' : World), u' 174 = .bool false → Below w.heap.size w w' → K (FA v0 B false v4 v5 (.bool t6) j (.bool t8) (.bool t9) u') w') :
    cd.wp Tryd.prog (Exit.then K Q) (FA v0 B false v4 v5 (.bool t6) j (.bool t8) (.bool t9) u) w := by
  simp [rgR, rg, Tryd.f18] at hc
  subst hc
  unfold FA frL
  have HQ := Lib.hid hQ
  clear hQ
  by_cases h : j = 5
  · subst h
    have hf := hf rfl
    subst hf
    go_wp2_with fail
    exact fr_end (K := K) rfl 164 rfl (fun u' h' => HQ.out u' _ h' (Below.refl _ _))
  · have h1 : (j == 5) = false := by simp [h]
    have h2 : decide (j = 5) = false := decide_eq_false h
    clear hf h
    go_wp2_with fail
    exact fr_end (K := K) rfl 164 rfl (fun u' h' => HQ.out u' _ h' (Below.refl _ _))
set_option maxRecDepth 100000 in
set_option maxHeartbeats 4000000 in
theorem no23 (cd : Code) (hc : rgR 23 = some cd) (v0 v4 v5 : Value) (B : Nat) (k j : Int) (t6 t8 t9 : Bool) (u : Nat → Value) (w : World) (_y1 : w.cell? ⟨B, 0, none⟩ = some (.int .i64 k)) (hf : j = 6 → t9 = false) (K : Act → World → Prop) (Q : Exit → Act → World → Prop)
    (hQ : ∀ (u' : Nat → Value) (w' : World), u' 189 = .bool false → Below w.heap.size w w' → K (FA v0 B false v4 v5 (.bool t6) j (.bool t8) (.bool t9) u') w') :
    cd.wp Tryd.prog (Exit.then K Q) (FA v0 B false v4 v5 (.bool t6) j (.bool t8) (.bool t9) u) w := by
  simp [rgR, rg, Tryd.f18] at hc
  subst hc
  unfold FA frL
  have HQ := Lib.hid hQ
  clear hQ
  by_cases h : j = 6
  · subst h
    have hf := hf rfl
    subst hf
    go_wp2_with fail
    exact fr_end (K := K) rfl 179 rfl (fun u' h' => HQ.out u' _ h' (Below.refl _ _))
  · have h1 : (j == 6) = false := by simp [h]
    have h2 : decide (j = 6) = false := decide_eq_false h
    clear hf h
    go_wp2_with fail
    exact fr_end (K := K) rfl 179 rfl (fun u' h' => HQ.out u' _ h' (Below.refl _ _))
set_option maxRecDepth 100000 in
set_option maxHeartbeats 4000000 in
theorem no25 (cd : Code) (hc : rgR 25 = some cd) (v0 v4 v5 : Value) (B : Nat) (k j : Int) (t6 t8 t9 : Bool) (u : Nat → Value) (w : World) (_y1 : w.cell? ⟨B, 0, none⟩ = some (.int .i64 k)) (hf : j = 6 → t9 = false) (K : Act → World → Prop) (Q : Exit → Act → World → Prop)
    (hQ : ∀ (u' : Nat → Value) (w' : World), u' 226 = .bool false → Below w.heap.size w w' → K (FA v0 B false v4 v5 (.bool t6) j (.bool t8) (.bool t9) u') w') :
    cd.wp Tryd.prog (Exit.then K Q) (FA v0 B false v4 v5 (.bool t6) j (.bool t8) (.bool t9) u) w := by
  simp [rgR, rg, Tryd.f18] at hc
  subst hc
  unfold FA frL
  have HQ := Lib.hid hQ
  clear hQ
  by_cases h : j = 6
  · subst h
    have hf := hf rfl
    subst hf
    go_wp2_with fail
    exact fr_end (K := K) rfl 216 rfl (fun u' h' => HQ.out u' _ h' (Below.refl _ _))
  · have h1 : (j == 6) = false := by simp [h]
    have h2 : decide (j = 6) = false := decide_eq_false h
    clear hf h
    go_wp2_with fail
    exact fr_end (K := K) rfl 216 rfl (fun u' h' => HQ.out u' _ h' (Below.refl _ _))
set_option maxRecDepth 100000 in
set_option maxHeartbeats 4000000 in
theorem no27 (cd : Code) (hc : rgR 27 = some cd) (v0 v4 v5 : Value) (B : Nat) (k j : Int) (t6 t8 t9 : Bool) (u : Nat → Value) (w : World) (_y1 : w.cell? ⟨B, 0, none⟩ = some (.int .i64 k)) (hf : j = 7 → t9 = false) (K : Act → World → Prop) (Q : Exit → Act → World → Prop)
    (hQ : ∀ (u' : Nat → Value) (w' : World), u' 251 = .bool false → Below w.heap.size w w' → K (FA v0 B false v4 v5 (.bool t6) j (.bool t8) (.bool t9) u') w') :
    cd.wp Tryd.prog (Exit.then K Q) (FA v0 B false v4 v5 (.bool t6) j (.bool t8) (.bool t9) u) w := by
  simp [rgR, rg, Tryd.f18] at hc
  subst hc
  unfold FA frL
  have HQ := Lib.hid hQ
  clear hQ
  by_cases h : j = 7
  · subst h
    have hf := hf rfl
    subst hf
    go_quiet (fail)
    go_wp2_with fail
    exact fr_end (K := K) rfl 241 rfl (fun u' h' => HQ.out u' _ h' (below_drewN (Below.refl _ _) _))
  · have h1 : (j == 7) = false := by simp [h]
    have h2 : decide (j = 7) = false := decide_eq_false h
    clear hf h
    go_quiet (fail)
    go_wp2_with fail
    exact fr_end (K := K) rfl 241 rfl (fun u' h' => HQ.out u' _ h' (below_drewN (Below.refl _ _) _))
set_option maxRecDepth 100000 in
set_option maxHeartbeats 4000000 in
theorem no29 (cd : Code) (hc : rgR 29 = some cd) (v0 v4 v5 : Value) (B : Nat) (k j : Int) (t6 t8 t9 : Bool) (u : Nat → Value) (w : World) (y1 : w.cell? ⟨B, 0, none⟩ = some (.int .i64 k)) (hf : j = 8 → ¬ 14 ≤ k) (K : Act → World → Prop) (Q : Exit → Act → World → Prop)
    (hQ : ∀ (u' : Nat → Value) (w' : World), u' 298 = .bool false → Below w.heap.size w w' → K (FA v0 B false v4 v5 (.bool t6) j (.bool t8) (.bool t9) u') w') :
    cd.wp Tryd.prog (Exit.then K Q) (FA v0 B false v4 v5 (.bool t6) j (.bool t8) (.bool t9) u) w := by
  simp [rgR, rg, Tryd.f18] at hc
  subst hc
  unfold FA frL
  have HQ := Lib.hid hQ
  clear hQ
  by_cases h : j = 8
  · subst h
    have hf := hf rfl
    have hkd : decide (14 ≤ k) = false := decide_eq_false hf
    clear hf
    go_quiet (fail)
    go_wp2_with fail
    exact fr_end (K := K) rfl 288 rfl (fun u' h' => HQ.out u' _ h' (below_drewN (Below.refl _ _) _))
  · have h1 : (j == 8) = false := by simp [h]
    have h2 : decide (j = 8) = false := decide_eq_false h
    clear hf h
    go_quiet (fail)
    go_wp2_with fail
    exact fr_end (K := K) rfl 288 rfl (fun u' h' => HQ.out u' _ h' (below_drewN (Below.refl _ _) _))
set_option maxRecDepth 100000 in
set_option maxHeartbeats 4000000 in
theorem no31 (cd : Code) (hc : rgR 31 = some cd) (v0 v4 v5 : Value) (B : Nat) (k j : Int) (t6 t8 t9 : Bool) (u : Nat → Value) (w : World) (y1 : w.cell? ⟨B, 0, none⟩ = some (.int .i64 k)) (hf : j = 9 → ¬ k = 7) (K : Act → World → Prop) (Q : Exit → Act → World → Prop)
    (hQ : ∀ (u' : Nat → Value) (w' : World), u' 340 = .bool false → Below w.heap.size w w' → K (FA v0 B false v4 v5 (.bool t6) j (.bool t8) (.bool t9) u') w') :
    cd.wp Tryd.prog (Exit.then K Q) (FA v0 B false v4 v5 (.bool t6) j (.bool t8) (.bool t9) u) w := by
  simp [rgR, rg, Tryd.f18] at hc
  subst hc
  unfold FA frL
  have HQ := Lib.hid hQ
  clear hQ
  by_cases h : j = 9
  · subst h
    have hf := hf rfl
    have hkd : decide (k = 7) = false := decide_eq_false hf
    have hkb : (k == 7) = false := by simp [hf]
    clear hf
    go_quiet (fail)
    go_wp2_with fail
    exact fr_end (K := K) rfl 330 rfl (fun u' h' => HQ.out u' _ h' (below_drewN (Below.refl _ _) _))
  · have h1 : (j == 9) = false := by simp [h]
    have h2 : decide (j = 9) = false := decide_eq_false h
    clear hf h
    go_quiet (fail)
    go_wp2_with fail
    exact fr_end (K := K) rfl 330 rfl (fun u' h' => HQ.out u' _ h' (below_drewN (Below.refl _ _) _))
end Go.Proofs.YtcodncddaemhlaaDoor
/- The guards of the reference's ruled where they are looked at: each region a theorem of its own. -/
namespace Go.Proofs.YtcodncddaemhlaaDoor
open Go.RowKit

set_option maxRecDepth 100000 in
set_option maxHeartbeats 4000000 in
theorem yes11 (cd : Code) (hc : rgR 11 = some cd) (v0 v4 v5 : Value) (B : Nat) (t8 t9 : Bool) (b0 off m c : Nat) (kp kq : Int) (u : Nat → Value) (w : World) (y4 : w.cell? ⟨B, 3, none⟩ = some (.slice (some ⟨b0, off, none⟩) m c)) (hm : (1 : Int) < (m : Int)) (p1 : w.cell? ⟨b0, off, none⟩ = some (.int .i64 kp)) (q1 : w.cell? ⟨b0, off + 4, none⟩ = some (.int .i64 kq)) (K : Act → World → Prop) (Q : Exit → Act → World → Prop)
    (hQ : ∀ (u' : Nat → Value) (w' : World), u' 55 = .bool ((kp == 2) || (kq == 2)) → Below w.heap.size w w' → K (FA v0 B false v4 v5 (.bool true) 2 (.bool t8) (.bool t9) u') w') :
    cd.wp Tryd.prog (Exit.then K Q) (FA v0 B false v4 v5 (.bool true) 2 (.bool t8) (.bool t9) u) w := by
  simp [rgR, rg, Tryd.f18] at hc
  subst hc
  unfold FA frL
  have HQ := Lib.hid hQ
  clear hQ
  by_cases ha : kp = 2
  · have hab : (kp == 2) = true := beq_iff_eq.2 ha
    have had : decide (kp = 2) = true := decide_eq_true ha
    rw [hab] at HQ
    clear ha
    by_cases hb : kq = 2
    · have hbb : (kq == 2) = true := beq_iff_eq.2 hb
      have hbd : decide (kq = 2) = true := decide_eq_true hb
      rw [hbb] at HQ
      clear hb
      go_wp2_with fail
      exact fr_end (K := K) rfl 45 rfl (fun u' h' => HQ.out u' _ h' (Below.refl _ _))
    · have hbb : (kq == 2) = false := beq_eq_false_iff_ne.2 hb
      have hbd : decide (kq = 2) = false := decide_eq_false hb
      rw [hbb] at HQ
      clear hb
      go_wp2_with fail
      exact fr_end (K := K) rfl 45 rfl (fun u' h' => HQ.out u' _ h' (Below.refl _ _))
  · have hab : (kp == 2) = false := beq_eq_false_iff_ne.2 ha
    have had : decide (kp = 2) = false := decide_eq_false ha
    rw [hab] at HQ
    clear ha
    by_cases hb : kq = 2
    · have hbb : (kq == 2) = true := beq_iff_eq.2 hb
      have hbd : decide (kq = 2) = true := decide_eq_true hb
      rw [hbb] at HQ
      clear hb
      go_wp2_with fail
      exact fr_end (K := K) rfl 45 rfl (fun u' h' => HQ.out u' _ h' (Below.refl _ _))
    · have hbb : (kq == 2) = false := beq_eq_false_iff_ne.2 hb
      have hbd : decide (kq = 2) = false := decide_eq_false hb
      rw [hbb] at HQ
      clear hb
      go_wp2_with fail
      exact fr_end (K := K) rfl 45 rfl (fun u' h' => HQ.out u' _ h' (Below.refl _ _))
set_option maxRecDepth 100000 in
set_option maxHeartbeats 4000000 in
theorem yes13 (cd : Code) (hc : rgR 13 = some cd) (v0 v4 v5 : Value) (B : Nat) (t9 : Bool) (b0 off m c : Nat) (kp : Int) (u : Nat → Value) (w : World) (y4 : w.cell? ⟨B, 3, none⟩ = some (.slice (some ⟨b0, off, none⟩) m c)) (hm : (0 : Int) < (m : Int)) (p1 : w.cell? ⟨b0, off, none⟩ = some (.int .i64 kp)) (K : Act → World → Prop) (Q : Exit → Act → World → Prop)
    (hQ : ∀ (u' : Nat → Value) (w' : World), u' 78 = .bool (kp == 2) → Below w.heap.size w w' → K (FA v0 B false v4 v5 (.bool false) 2 (.bool true) (.bool t9) u') w') :
    cd.wp Tryd.prog (Exit.then K Q) (FA v0 B false v4 v5 (.bool false) 2 (.bool true) (.bool t9) u) w := by
  simp [rgR, rg, Tryd.f18] at hc
  subst hc
  unfold FA frL
  have HQ := Lib.hid hQ
  clear hQ
  by_cases ha : kp = 2
  · have hab : (kp == 2) = true := beq_iff_eq.2 ha
    have had : decide (kp = 2) = true := decide_eq_true ha
    rw [hab] at HQ
    clear ha
    go_wp2_with fail
    exact fr_end (K := K) rfl 68 rfl (fun u' h' => HQ.out u' _ h' (Below.refl _ _))
  · have hab : (kp == 2) = false := beq_eq_false_iff_ne.2 ha
    have had : decide (kp = 2) = false := decide_eq_false ha
    rw [hab] at HQ
    clear ha
    go_wp2_with fail
    exact fr_end (K := K) rfl 68 rfl (fun u' h' => HQ.out u' _ h' (Below.refl _ _))
set_option maxRecDepth 100000 in
set_option maxHeartbeats 4000000 in
theorem yes15 (cd : Code) (hc : rgR 15 = some cd) (v0 v4 v5 : Value) (B : Nat) (t9 : Bool) (b0 off m c : Nat) (kq : Int) (u : Nat → Value) (w : World) (y4 : w.cell? ⟨B, 3, none⟩ = some (.slice (some ⟨b0, off, none⟩) m c)) (hm : (1 : Int) < (m : Int)) (q1 : w.cell? ⟨b0, off + 4, none⟩ = some (.int .i64 kq)) (K : Act → World → Prop) (Q : Exit → Act → World → Prop)
    (hQ : ∀ (u' : Nat → Value) (w' : World), u' 100 = .bool (kq == 2) → Below w.heap.size w w' → K (FA v0 B false v4 v5 (.bool false) 2 (.bool true) (.bool t9) u') w') :
    cd.wp Tryd.prog (Exit.then K Q) (FA v0 B false v4 v5 (.bool false) 2 (.bool true) (.bool t9) u) w := by
  simp [rgR, rg, Tryd.f18] at hc
  subst hc
  unfold FA frL
  have HQ := Lib.hid hQ
  clear hQ
  by_cases hb : kq = 2
  · have hbb : (kq == 2) = true := beq_iff_eq.2 hb
    have hbd : decide (kq = 2) = true := decide_eq_true hb
    rw [hbb] at HQ
    clear hb
    go_wp2_with fail
    exact fr_end (K := K) rfl 90 rfl (fun u' h' => HQ.out u' _ h' (Below.refl _ _))
  · have hbb : (kq == 2) = false := beq_eq_false_iff_ne.2 hb
    have hbd : decide (kq = 2) = false := decide_eq_false hb
    rw [hbb] at HQ
    clear hb
    go_wp2_with fail
    exact fr_end (K := K) rfl 90 rfl (fun u' h' => HQ.out u' _ h' (Below.refl _ _))
set_option maxRecDepth 100000 in
set_option maxHeartbeats 4000000 in
theorem yes19 (cd : Code) (hc : rgR 19 = some cd) (v0 v4 : Value) (B : Nat) (t6 t8 : Bool) (k pv n : Int) (u : Nat → Value) (w : World) (y1 : w.cell? ⟨B, 0, none⟩ = some (.int .i64 k)) (y3 : w.cell? ⟨B, 2, none⟩ = some (.int .i64 n)) (K : Act → World → Prop) (Q : Exit → Act → World → Prop)
    (hQ : ∀ (u' : Nat → Value) (w' : World), u' 153 = .bool ((k == pv) && (n == 0)) → Below w.heap.size w w' → K (FA v0 B false v4 (.int .i64 pv) (.bool t6) 4 (.bool t8) (.bool true) u') w') :
    cd.wp Tryd.prog (Exit.then K Q) (FA v0 B false v4 (.int .i64 pv) (.bool t6) 4 (.bool t8) (.bool true) u) w := by
  simp [rgR, rg, Tryd.f18] at hc
  subst hc
  unfold FA frL
  have HQ := Lib.hid hQ
  clear hQ
  by_cases ha : k = pv
  · have hab : (k == pv) = true := beq_iff_eq.2 ha
    have had : decide (k = pv) = true := decide_eq_true ha
    rw [hab] at HQ
    clear ha
    by_cases hb : n = 0
    · have hbb : (n == 0) = true := beq_iff_eq.2 hb
      have hbd : decide (n = 0) = true := decide_eq_true hb
      rw [hbb] at HQ
      clear hb
      go_wp2_with fail
      exact fr_end (K := K) rfl 143 rfl (fun u' h' => HQ.out u' _ h' (Below.refl _ _))
    · have hbb : (n == 0) = false := beq_eq_false_iff_ne.2 hb
      have hbd : decide (n = 0) = false := decide_eq_false hb
      rw [hbb] at HQ
      clear hb
      go_wp2_with fail
      exact fr_end (K := K) rfl 143 rfl (fun u' h' => HQ.out u' _ h' (Below.refl _ _))
  · have hab : (k == pv) = false := beq_eq_false_iff_ne.2 ha
    have had : decide (k = pv) = false := decide_eq_false ha
    rw [hab] at HQ
    clear ha
    by_cases hb : n = 0
    · have hbb : (n == 0) = true := beq_iff_eq.2 hb
      have hbd : decide (n = 0) = true := decide_eq_true hb
      rw [hbb] at HQ
      clear hb
      go_wp2_with fail
      exact fr_end (K := K) rfl 143 rfl (fun u' h' => HQ.out u' _ h' (Below.refl _ _))
    · have hbb : (n == 0) = false := beq_eq_false_iff_ne.2 hb
      have hbd : decide (n = 0) = false := decide_eq_false hb
      rw [hbb] at HQ
      clear hb
      go_wp2_with fail
      exact fr_end (K := K) rfl 143 rfl (fun u' h' => HQ.out u' _ h' (Below.refl _ _))
set_option maxRecDepth 100000 in
set_option maxHeartbeats 4000000 in
theorem yes21 (cd : Code) (hc : rgR 21 = some cd) (v0 v4 v5 : Value) (B : Nat) (t6 t8 : Bool) (b0 off m c : Nat) (kp : Int) (u : Nat → Value) (w : World) (y4 : w.cell? ⟨B, 3, none⟩ = some (.slice (some ⟨b0, off, none⟩) m c)) (hm : (0 : Int) < (m : Int)) (p1 : w.cell? ⟨b0, off, none⟩ = some (.int .i64 kp)) (K : Act → World → Prop) (Q : Exit → Act → World → Prop)
    (hQ : ∀ (u' : Nat → Value) (w' : World), u' 174 = .bool (kp == 2) → Below w.heap.size w w' → K (FA v0 B false v4 v5 (.bool t6) 5 (.bool t8) (.bool true) u') w') :
    cd.wp Tryd.prog (Exit.then K Q) (FA v0 B false v4 v5 (.bool t6) 5 (.bool t8) (.bool true) u) w := by
  simp [rgR, rg, Tryd.f18] at hc
  subst hc
  unfold FA frL
  have HQ := Lib.hid hQ
  clear hQ
  by_cases ha : kp = 2
  · have hab : (kp == 2) = true := beq_iff_eq.2 ha
    have had : decide (kp = 2) = true := decide_eq_true ha
    rw [hab] at HQ
    clear ha
    go_wp2_with fail
    exact fr_end (K := K) rfl 164 rfl (fun u' h' => HQ.out u' _ h' (Below.refl _ _))
  · have hab : (kp == 2) = false := beq_eq_false_iff_ne.2 ha
    have had : decide (kp = 2) = false := decide_eq_false ha
    rw [hab] at HQ
    clear ha
    go_wp2_with fail
    exact fr_end (K := K) rfl 164 rfl (fun u' h' => HQ.out u' _ h' (Below.refl _ _))
set_option maxRecDepth 100000 in
set_option maxHeartbeats 4000000 in
theorem yes23 (cd : Code) (hc : rgR 23 = some cd) (v0 : Value) (B : Nat) (t6 t8 : Bool) (k wv pv : Int) (b0 off m c : Nat) (kp : Int) (u : Nat → Value) (w : World) (y1 : w.cell? ⟨B, 0, none⟩ = some (.int .i64 k)) (y4 : w.cell? ⟨B, 3, none⟩ = some (.slice (some ⟨b0, off, none⟩) m c)) (hm : (0 : Int) < (m : Int)) (p1 : w.cell? ⟨b0, off, none⟩ = some (.int .i64 kp)) (K : Act → World → Prop) (Q : Exit → Act → World → Prop)
    (hQ : ∀ (u' : Nat → Value) (w' : World), u' 189 = .bool ((k == wv) && ((kp == wv) || (kp == pv))) → Below w.heap.size w w' → K (FA v0 B false (.int .i64 wv) (.int .i64 pv) (.bool t6) 6 (.bool t8) (.bool true) u') w') :
    cd.wp Tryd.prog (Exit.then K Q) (FA v0 B false (.int .i64 wv) (.int .i64 pv) (.bool t6) 6 (.bool t8) (.bool true) u) w := by
  simp [rgR, rg, Tryd.f18] at hc
  subst hc
  unfold FA frL
  have HQ := Lib.hid hQ
  clear hQ
  by_cases ha : k = wv
  · have hab : (k == wv) = true := beq_iff_eq.2 ha
    have had : decide (k = wv) = true := decide_eq_true ha
    rw [hab] at HQ
    clear ha
    by_cases hb : kp = wv
    · have hbb : (kp == wv) = true := beq_iff_eq.2 hb
      have hbd : decide (kp = wv) = true := decide_eq_true hb
      rw [hbb] at HQ
      clear hb
      by_cases hd : kp = pv
      · have hdb : (kp == pv) = true := beq_iff_eq.2 hd
        have hdd : decide (kp = pv) = true := decide_eq_true hd
        rw [hdb] at HQ
        clear hd
        go_wp2_with fail
        exact fr_end (K := K) rfl 179 rfl (fun u' h' => HQ.out u' _ h' (Below.refl _ _))
      · have hdb : (kp == pv) = false := beq_eq_false_iff_ne.2 hd
        have hdd : decide (kp = pv) = false := decide_eq_false hd
        rw [hdb] at HQ
        clear hd
        go_wp2_with fail
        exact fr_end (K := K) rfl 179 rfl (fun u' h' => HQ.out u' _ h' (Below.refl _ _))
    · have hbb : (kp == wv) = false := beq_eq_false_iff_ne.2 hb
      have hbd : decide (kp = wv) = false := decide_eq_false hb
      rw [hbb] at HQ
      clear hb
      by_cases hd : kp = pv
      · have hdb : (kp == pv) = true := beq_iff_eq.2 hd
        have hdd : decide (kp = pv) = true := decide_eq_true hd
        rw [hdb] at HQ
        clear hd
        go_wp2_with fail
        exact fr_end (K := K) rfl 179 rfl (fun u' h' => HQ.out u' _ h' (Below.refl _ _))
      · have hdb : (kp == pv) = false := beq_eq_false_iff_ne.2 hd
        have hdd : decide (kp = pv) = false := decide_eq_false hd
        rw [hdb] at HQ
        clear hd
        go_wp2_with fail
        exact fr_end (K := K) rfl 179 rfl (fun u' h' => HQ.out u' _ h' (Below.refl _ _))
  · have hab : (k == wv) = false := beq_eq_false_iff_ne.2 ha
    have had : decide (k = wv) = false := decide_eq_false ha
    rw [hab] at HQ
    clear ha
    by_cases hb : kp = wv
    · have hbb : (kp == wv) = true := beq_iff_eq.2 hb
      have hbd : decide (kp = wv) = true := decide_eq_true hb
      rw [hbb] at HQ
      clear hb
      by_cases hd : kp = pv
      · have hdb : (kp == pv) = true := beq_iff_eq.2 hd
        have hdd : decide (kp = pv) = true := decide_eq_true hd
        rw [hdb] at HQ
        clear hd
        go_wp2_with fail
        exact fr_end (K := K) rfl 179 rfl (fun u' h' => HQ.out u' _ h' (Below.refl _ _))
      · have hdb : (kp == pv) = false := beq_eq_false_iff_ne.2 hd
        have hdd : decide (kp = pv) = false := decide_eq_false hd
        rw [hdb] at HQ
        clear hd
        go_wp2_with fail
        exact fr_end (K := K) rfl 179 rfl (fun u' h' => HQ.out u' _ h' (Below.refl _ _))
    · have hbb : (kp == wv) = false := beq_eq_false_iff_ne.2 hb
      have hbd : decide (kp = wv) = false := decide_eq_false hb
      rw [hbb] at HQ
      clear hb
      by_cases hd : kp = pv
      · have hdb : (kp == pv) = true := beq_iff_eq.2 hd
        have hdd : decide (kp = pv) = true := decide_eq_true hd
        rw [hdb] at HQ
        clear hd
        go_wp2_with fail
        exact fr_end (K := K) rfl 179 rfl (fun u' h' => HQ.out u' _ h' (Below.refl _ _))
      · have hdb : (kp == pv) = false := beq_eq_false_iff_ne.2 hd
        have hdd : decide (kp = pv) = false := decide_eq_false hd
        rw [hdb] at HQ
        clear hd
        go_wp2_with fail
        exact fr_end (K := K) rfl 179 rfl (fun u' h' => HQ.out u' _ h' (Below.refl _ _))
set_option maxRecDepth 100000 in
set_option maxHeartbeats 4000000 in
theorem yes25 (cd : Code) (hc : rgR 25 = some cd) (v0 : Value) (B : Nat) (t6 t8 : Bool) (k wv pv : Int) (b0 off m c : Nat) (kp : Int) (u : Nat → Value) (w : World) (y1 : w.cell? ⟨B, 0, none⟩ = some (.int .i64 k)) (y4 : w.cell? ⟨B, 3, none⟩ = some (.slice (some ⟨b0, off, none⟩) m c)) (hm : (0 : Int) < (m : Int)) (p1 : w.cell? ⟨b0, off, none⟩ = some (.int .i64 kp)) (K : Act → World → Prop) (Q : Exit → Act → World → Prop)
    (hQ : ∀ (u' : Nat → Value) (w' : World), u' 226 = .bool ((k == pv) && (kp == wv)) → Below w.heap.size w w' → K (FA v0 B false (.int .i64 wv) (.int .i64 pv) (.bool t6) 6 (.bool t8) (.bool true) u') w') :
    cd.wp Tryd.prog (Exit.then K Q) (FA v0 B false (.int .i64 wv) (.int .i64 pv) (.bool t6) 6 (.bool t8) (.bool true) u) w := by
  simp [rgR, rg, Tryd.f18] at hc
  subst hc
  unfold FA frL
  have HQ := Lib.hid hQ
  clear hQ
  by_cases ha : k = pv
  · have hab : (k == pv) = true := beq_iff_eq.2 ha
    have had : decide (k = pv) = true := decide_eq_true ha
    rw [hab] at HQ
    clear ha
    by_cases hb : kp = wv
    · have hbb : (kp == wv) = true := beq_iff_eq.2 hb
      have hbd : decide (kp = wv) = true := decide_eq_true hb
      rw [hbb] at HQ
      clear hb
      go_wp2_with fail
      exact fr_end (K := K) rfl 216 rfl (fun u' h' => HQ.out u' _ h' (Below.refl _ _))
    · have hbb : (kp == wv) = false := beq_eq_false_iff_ne.2 hb
      have hbd : decide (kp = wv) = false := decide_eq_false hb
      rw [hbb] at HQ
      clear hb
      go_wp2_with fail
      exact fr_end (K := K) rfl 216 rfl (fun u' h' => HQ.out u' _ h' (Below.refl _ _))
  · have hab : (k == pv) = false := beq_eq_false_iff_ne.2 ha
    have had : decide (k = pv) = false := decide_eq_false ha
    rw [hab] at HQ
    clear ha
    by_cases hb : kp = wv
    · have hbb : (kp == wv) = true := beq_iff_eq.2 hb
      have hbd : decide (kp = wv) = true := decide_eq_true hb
      rw [hbb] at HQ
      clear hb
      go_wp2_with fail
      exact fr_end (K := K) rfl 216 rfl (fun u' h' => HQ.out u' _ h' (Below.refl _ _))
    · have hbb : (kp == wv) = false := beq_eq_false_iff_ne.2 hb
      have hbd : decide (kp = wv) = false := decide_eq_false hb
      rw [hbb] at HQ
      clear hb
      go_wp2_with fail
      exact fr_end (K := K) rfl 216 rfl (fun u' h' => HQ.out u' _ h' (Below.refl _ _))
end Go.Proofs.YtcodncddaemhlaaDoor
