/- What a rule of the reference's ruled tells: each region a theorem of its own. -/
import Derived.Test.YtcodncddaemhlaaDoorNormR1
import Derived.StillTailTactics
namespace Go.Proofs.YtcodncddaemhlaaDoor
open Go.RowKit

set_option maxRecDepth 100000 in
set_option maxHeartbeats 4000000 in
theorem arm10 (cd : Code) (hc : rgR 10 = some cd) (v0 : Value) (v4 : Value) (v5 : Value) (v6 v8 v9 : Value) (j : Int) (B : Nat) (b0 off m c : Nat) (kp np : Int) (sp : ByteArray) (Ap : Option Addr) (lp cp : Nat) (u : Nat → Value) (w w0 : World) (hm : (0 : Int) < (m : Int)) (h0 : w.cell? ⟨B, 3, none⟩ = some (.slice (some ⟨b0, off, none⟩) m c)) (h1 : w.cell? ⟨b0, off, none⟩ = some (.int .i64 kp)) (h2 : w.cell? ⟨b0, off + 1, none⟩ = some (.string sp)) (h3 : w.cell? ⟨b0, off + 2, none⟩ = some (.int .i64 np)) (h4 : w.cell? ⟨b0, off + 3, none⟩ = some (.slice Ap lp cp)) (RB : Blk w (B + 1) 24 [.int .i64 0, .string ⟨#[]⟩, .int .i64 0, .slice none 0 0]) (HB : Below w0.heap.size w0 w) (hle : w0.heap.size ≤ B + 1) (K : Act → World → Prop) (Q : Exit → Act → World → Prop)
    (hQ : ∀ (u' : Nat → Value) (w' : World), Blk w' (B + 1) 24 [.int .i64 kp, .string sp, .int .i64 np, .slice Ap lp cp] → Below w0.heap.size w0 w' → K (FA v0 B true v4 v5 v6 j v8 v9 u') w') :
    cd.wp Tryd.prog (Exit.then K Q) (FA v0 B false v4 v5 v6 j v8 v9 u) w := by
  simp [rgR, rg, Tryd.f18] at hc
  subst hc
  unfold FA frL
  have HQ := Lib.hid hQ
  clear hQ
  have rf := RB.free
  have r1 := RB.cell (j := 0) rfl
  have r2 := RB.cell (j := 1) rfl
  have r3 := RB.cell (j := 2) rfl
  have r4 := RB.cell (j := 3) rfl
  have RBH := Lib.hid RB
  have HBH := Lib.hid HB
  have HLE := Lib.hid hle
  clear RB HB hle
  go_wp2_with fail
  refine fr_any (K := K) rfl (fun u' => HQ.out u' _ (blk_put4 RBH.out _ _ _ _) (below_put4A HBH.out HLE.out _ _ _ _))
set_option maxRecDepth 100000 in
set_option maxHeartbeats 4000000 in
theorem arm16 (cd : Code) (hc : rgR 16 = some cd) (v0 : Value) (v4 : Value) (v5 : Value) (v6 v8 v9 : Value) (j : Int) (B : Nat) (b0 off m c : Nat) (kp np : Int) (sp : ByteArray) (Ap : Option Addr) (lp cp : Nat) (u : Nat → Value) (w w0 : World) (hm : (0 : Int) < (m : Int)) (h0 : w.cell? ⟨B, 3, none⟩ = some (.slice (some ⟨b0, off, none⟩) m c)) (h1 : w.cell? ⟨b0, off, none⟩ = some (.int .i64 kp)) (h2 : w.cell? ⟨b0, off + 1, none⟩ = some (.string sp)) (h3 : w.cell? ⟨b0, off + 2, none⟩ = some (.int .i64 np)) (h4 : w.cell? ⟨b0, off + 3, none⟩ = some (.slice Ap lp cp)) (RB : Blk w (B + 1) 24 [.int .i64 0, .string ⟨#[]⟩, .int .i64 0, .slice none 0 0]) (HB : Below w0.heap.size w0 w) (hle : w0.heap.size ≤ B + 1) (K : Act → World → Prop) (Q : Exit → Act → World → Prop)
    (hQ : ∀ (u' : Nat → Value) (w' : World), Blk w' (B + 1) 24 [.int .i64 kp, .string sp, .int .i64 np, .slice Ap lp cp] → Below w0.heap.size w0 w' → K (FA v0 B true v4 v5 v6 j v8 v9 u') w') :
    cd.wp Tryd.prog (Exit.then K Q) (FA v0 B false v4 v5 v6 j v8 v9 u) w := by
  simp [rgR, rg, Tryd.f18] at hc
  subst hc
  unfold FA frL
  have HQ := Lib.hid hQ
  clear hQ
  have rf := RB.free
  have r1 := RB.cell (j := 0) rfl
  have r2 := RB.cell (j := 1) rfl
  have r3 := RB.cell (j := 2) rfl
  have r4 := RB.cell (j := 3) rfl
  have RBH := Lib.hid RB
  have HBH := Lib.hid HB
  have HLE := Lib.hid hle
  clear RB HB hle
  go_wp2_with fail
  refine fr_any (K := K) rfl (fun u' => HQ.out u' _ (blk_put4 RBH.out _ _ _ _) (below_put4A HBH.out HLE.out _ _ _ _))
set_option maxRecDepth 100000 in
set_option maxHeartbeats 4000000 in
theorem arm20 (cd : Code) (hc : rgR 20 = some cd) (v0 : Value) (v4 : Value) (v5 : Value) (v6 v8 v9 : Value) (j : Int) (B : Nat) (b0 off m c : Nat) (kp np : Int) (sp : ByteArray) (Ap : Option Addr) (lp cp : Nat) (u : Nat → Value) (w w0 : World) (hm : (0 : Int) < (m : Int)) (h0 : w.cell? ⟨B, 3, none⟩ = some (.slice (some ⟨b0, off, none⟩) m c)) (h1 : w.cell? ⟨b0, off, none⟩ = some (.int .i64 kp)) (h2 : w.cell? ⟨b0, off + 1, none⟩ = some (.string sp)) (h3 : w.cell? ⟨b0, off + 2, none⟩ = some (.int .i64 np)) (h4 : w.cell? ⟨b0, off + 3, none⟩ = some (.slice Ap lp cp)) (RB : Blk w (B + 1) 24 [.int .i64 0, .string ⟨#[]⟩, .int .i64 0, .slice none 0 0]) (HB : Below w0.heap.size w0 w) (hle : w0.heap.size ≤ B + 1) (K : Act → World → Prop) (Q : Exit → Act → World → Prop)
    (hQ : ∀ (u' : Nat → Value) (w' : World), Blk w' (B + 1) 24 [.int .i64 kp, .string sp, .int .i64 np, .slice Ap lp cp] → Below w0.heap.size w0 w' → K (FA v0 B true v4 v5 v6 j v8 v9 u') w') :
    cd.wp Tryd.prog (Exit.then K Q) (FA v0 B false v4 v5 v6 j v8 v9 u) w := by
  simp [rgR, rg, Tryd.f18] at hc
  subst hc
  unfold FA frL
  have HQ := Lib.hid hQ
  clear hQ
  have rf := RB.free
  have r1 := RB.cell (j := 0) rfl
  have r2 := RB.cell (j := 1) rfl
  have r3 := RB.cell (j := 2) rfl
  have r4 := RB.cell (j := 3) rfl
  have RBH := Lib.hid RB
  have HBH := Lib.hid HB
  have HLE := Lib.hid hle
  clear RB HB hle
  go_wp2_with fail
  refine fr_any (K := K) rfl (fun u' => HQ.out u' _ (blk_put4 RBH.out _ _ _ _) (below_put4A HBH.out HLE.out _ _ _ _))
set_option maxRecDepth 100000 in
set_option maxHeartbeats 4000000 in
theorem arm26 (cd : Code) (hc : rgR 26 = some cd) (v0 : Value) (v4 : Value) (v5 : Value) (v6 v8 v9 : Value) (j : Int) (B : Nat) (b0 off m c : Nat) (kp np : Int) (sp : ByteArray) (Ap : Option Addr) (lp cp : Nat) (u : Nat → Value) (w w0 : World) (hm : (0 : Int) < (m : Int)) (h0 : w.cell? ⟨B, 3, none⟩ = some (.slice (some ⟨b0, off, none⟩) m c)) (h1 : w.cell? ⟨b0, off, none⟩ = some (.int .i64 kp)) (h2 : w.cell? ⟨b0, off + 1, none⟩ = some (.string sp)) (h3 : w.cell? ⟨b0, off + 2, none⟩ = some (.int .i64 np)) (h4 : w.cell? ⟨b0, off + 3, none⟩ = some (.slice Ap lp cp)) (RB : Blk w (B + 1) 24 [.int .i64 0, .string ⟨#[]⟩, .int .i64 0, .slice none 0 0]) (HB : Below w0.heap.size w0 w) (hle : w0.heap.size ≤ B + 1) (K : Act → World → Prop) (Q : Exit → Act → World → Prop)
    (hQ : ∀ (u' : Nat → Value) (w' : World), Blk w' (B + 1) 24 [.int .i64 kp, .string sp, .int .i64 np, .slice Ap lp cp] → Below w0.heap.size w0 w' → K (FA v0 B true v4 v5 v6 j v8 v9 u') w') :
    cd.wp Tryd.prog (Exit.then K Q) (FA v0 B false v4 v5 v6 j v8 v9 u) w := by
  simp [rgR, rg, Tryd.f18] at hc
  subst hc
  unfold FA frL
  have HQ := Lib.hid hQ
  clear hQ
  have rf := RB.free
  have r1 := RB.cell (j := 0) rfl
  have r2 := RB.cell (j := 1) rfl
  have r3 := RB.cell (j := 2) rfl
  have r4 := RB.cell (j := 3) rfl
  have RBH := Lib.hid RB
  have HBH := Lib.hid HB
  have HLE := Lib.hid hle
  clear RB HB hle
  go_wp2_with fail
  refine fr_any (K := K) rfl (fun u' => HQ.out u' _ (blk_put4 RBH.out _ _ _ _) (below_put4A HBH.out HLE.out _ _ _ _))
set_option maxRecDepth 100000 in
set_option maxHeartbeats 4000000 in
theorem arm30 (cd : Code) (hc : rgR 30 = some cd) (v0 : Value) (v4 : Value) (v5 : Value) (v6 v8 v9 : Value) (j : Int) (B : Nat) (b0 off m c : Nat) (kp np : Int) (sp : ByteArray) (Ap : Option Addr) (lp cp : Nat) (u : Nat → Value) (w w0 : World) (hm : (0 : Int) < (m : Int)) (h0 : w.cell? ⟨B, 3, none⟩ = some (.slice (some ⟨b0, off, none⟩) m c)) (h1 : w.cell? ⟨b0, off, none⟩ = some (.int .i64 kp)) (h2 : w.cell? ⟨b0, off + 1, none⟩ = some (.string sp)) (h3 : w.cell? ⟨b0, off + 2, none⟩ = some (.int .i64 np)) (h4 : w.cell? ⟨b0, off + 3, none⟩ = some (.slice Ap lp cp)) (RB : Blk w (B + 1) 24 [.int .i64 0, .string ⟨#[]⟩, .int .i64 0, .slice none 0 0]) (HB : Below w0.heap.size w0 w) (hle : w0.heap.size ≤ B + 1) (K : Act → World → Prop) (Q : Exit → Act → World → Prop)
    (hQ : ∀ (u' : Nat → Value) (w' : World), Blk w' (B + 1) 24 [.int .i64 kp, .string sp, .int .i64 np, .slice Ap lp cp] → Below w0.heap.size w0 w' → K (FA v0 B true v4 v5 v6 j v8 v9 u') w') :
    cd.wp Tryd.prog (Exit.then K Q) (FA v0 B false v4 v5 v6 j v8 v9 u) w := by
  simp [rgR, rg, Tryd.f18] at hc
  subst hc
  unfold FA frL
  have HQ := Lib.hid hQ
  clear hQ
  have rf := RB.free
  have r1 := RB.cell (j := 0) rfl
  have r2 := RB.cell (j := 1) rfl
  have r3 := RB.cell (j := 2) rfl
  have r4 := RB.cell (j := 3) rfl
  have RBH := Lib.hid RB
  have HBH := Lib.hid HB
  have HLE := Lib.hid hle
  clear RB HB hle
  go_wp2_with fail
  refine fr_any (K := K) rfl (fun u' => HQ.out u' _ (blk_put4 RBH.out _ _ _ _) (below_put4A HBH.out HLE.out _ _ _ _))
set_option maxRecDepth 100000 in
set_option maxHeartbeats 4000000 in
theorem arm14 (cd : Code) (hc : rgR 14 = some cd) (v0 : Value) (v4 : Value) (v5 : Value) (v6 v8 v9 : Value) (j : Int) (B : Nat) (b0 off m c : Nat) (kq nq : Int) (sq : ByteArray) (Aq : Option Addr) (lq cq : Nat) (u : Nat → Value) (w w0 : World) (hm : (1 : Int) < (m : Int)) (h0 : w.cell? ⟨B, 3, none⟩ = some (.slice (some ⟨b0, off, none⟩) m c)) (h1 : w.cell? ⟨b0, off + 4, none⟩ = some (.int .i64 kq)) (h2 : w.cell? ⟨b0, off + 4 + 1, none⟩ = some (.string sq)) (h3 : w.cell? ⟨b0, off + 4 + 2, none⟩ = some (.int .i64 nq)) (h4 : w.cell? ⟨b0, off + 4 + 3, none⟩ = some (.slice Aq lq cq)) (RB : Blk w (B + 1) 24 [.int .i64 0, .string ⟨#[]⟩, .int .i64 0, .slice none 0 0]) (HB : Below w0.heap.size w0 w) (hle : w0.heap.size ≤ B + 1) (K : Act → World → Prop) (Q : Exit → Act → World → Prop)
    (hQ : ∀ (u' : Nat → Value) (w' : World), Blk w' (B + 1) 24 [.int .i64 kq, .string sq, .int .i64 nq, .slice Aq lq cq] → Below w0.heap.size w0 w' → K (FA v0 B true v4 v5 v6 j v8 v9 u') w') :
    cd.wp Tryd.prog (Exit.then K Q) (FA v0 B false v4 v5 v6 j v8 v9 u) w := by
  simp [rgR, rg, Tryd.f18] at hc
  subst hc
  unfold FA frL
  have HQ := Lib.hid hQ
  clear hQ
  have rf := RB.free
  have r1 := RB.cell (j := 0) rfl
  have r2 := RB.cell (j := 1) rfl
  have r3 := RB.cell (j := 2) rfl
  have r4 := RB.cell (j := 3) rfl
  have RBH := Lib.hid RB
  have HBH := Lib.hid HB
  have HLE := Lib.hid hle
  clear RB HB hle
  go_wp2_with fail
  refine fr_any (K := K) rfl (fun u' => HQ.out u' _ (blk_put4 RBH.out _ _ _ _) (below_put4A HBH.out HLE.out _ _ _ _))
set_option maxRecDepth 100000 in
set_option maxHeartbeats 4000000 in
theorem arm12 (cd : Code) (hc : rgR 12 = some cd) (v0 : Value) (v4 : Value) (v5 : Value) (v6 v8 v9 : Value) (j : Int) (B : Nat)  (u : Nat → Value) (w w0 : World)  (RB : Blk w (B + 1) 24 [.int .i64 0, .string ⟨#[]⟩, .int .i64 0, .slice none 0 0]) (HB : Below w0.heap.size w0 w) (hle : w0.heap.size ≤ B + 1) (K : Act → World → Prop) (Q : Exit → Act → World → Prop)
    (hQ : ∀ (u' : Nat → Value) (w' : World), Blk w' (B + 1) 24 [.int .i64 2, .string ⟨#[]⟩, .int .i64 0, .slice none 0 0] → Below w0.heap.size w0 w' → K (FA v0 B true v4 v5 v6 j v8 v9 u') w') :
    cd.wp Tryd.prog (Exit.then K Q) (FA v0 B false v4 v5 v6 j v8 v9 u) w := by
  simp [rgR, rg, Tryd.f18] at hc
  subst hc
  unfold FA frL
  have HQ := Lib.hid hQ
  clear hQ
  have rf := RB.free
  have r1 := RB.cell (j := 0) rfl
  have r2 := RB.cell (j := 1) rfl
  have r3 := RB.cell (j := 2) rfl
  have r4 := RB.cell (j := 3) rfl
  have RBH := Lib.hid RB
  have HBH := Lib.hid HB
  have HLE := Lib.hid hle
  clear RB HB hle
  go_wp2_with fail
  refine fr_any (K := K) rfl (fun u' => HQ.out u' _ (blk_put4 RBH.out _ _ _ _) (below_put4A HBH.out HLE.out _ _ _ _))
set_option maxRecDepth 100000 in
set_option maxHeartbeats 4000000 in
theorem arm22 (cd : Code) (hc : rgR 22 = some cd) (v0 : Value) (v4 : Value) (v5 : Value) (v6 v8 v9 : Value) (j : Int) (B : Nat)  (u : Nat → Value) (w w0 : World)  (RB : Blk w (B + 1) 24 [.int .i64 0, .string ⟨#[]⟩, .int .i64 0, .slice none 0 0]) (HB : Below w0.heap.size w0 w) (hle : w0.heap.size ≤ B + 1) (K : Act → World → Prop) (Q : Exit → Act → World → Prop)
    (hQ : ∀ (u' : Nat → Value) (w' : World), Blk w' (B + 1) 24 [.int .i64 2, .string ⟨#[]⟩, .int .i64 0, .slice none 0 0] → Below w0.heap.size w0 w' → K (FA v0 B true v4 v5 v6 j v8 v9 u') w') :
    cd.wp Tryd.prog (Exit.then K Q) (FA v0 B false v4 v5 v6 j v8 v9 u) w := by
  simp [rgR, rg, Tryd.f18] at hc
  subst hc
  unfold FA frL
  have HQ := Lib.hid hQ
  clear hQ
  have rf := RB.free
  have r1 := RB.cell (j := 0) rfl
  have r2 := RB.cell (j := 1) rfl
  have r3 := RB.cell (j := 2) rfl
  have r4 := RB.cell (j := 3) rfl
  have RBH := Lib.hid RB
  have HBH := Lib.hid HB
  have HLE := Lib.hid hle
  clear RB HB hle
  go_wp2_with fail
  refine fr_any (K := K) rfl (fun u' => HQ.out u' _ (blk_put4 RBH.out _ _ _ _) (below_put4A HBH.out HLE.out _ _ _ _))
set_option maxRecDepth 100000 in
set_option maxHeartbeats 4000000 in
theorem arm24 (cd : Code) (hc : rgR 24 = some cd) (v0 : Value) (v5 : Value) (v6 v8 v9 : Value) (j : Int) (B : Nat) (wv : Int) (b0 off m c : Nat) (Ap : Option Addr) (lp cp : Nat) (u : Nat → Value) (w w0 : World) (hm : (0 : Int) < (m : Int)) (h0 : w.cell? ⟨B, 3, none⟩ = some (.slice (some ⟨b0, off, none⟩) m c)) (h1 : w.cell? ⟨b0, off + 3, none⟩ = some (.slice Ap lp cp)) (RB : Blk w (B + 1) 24 [.int .i64 0, .string ⟨#[]⟩, .int .i64 0, .slice none 0 0]) (HB : Below w0.heap.size w0 w) (hle : w0.heap.size ≤ B + 1) (K : Act → World → Prop) (Q : Exit → Act → World → Prop)
    (hQ : ∀ (u' : Nat → Value) (w' : World), Blk w' (B + 1) 24 [.int .i64 wv, .string ⟨#[]⟩, .int .i64 0, .slice Ap lp cp] → Below w0.heap.size w0 w' → K (FA v0 B true (.int .i64 wv) v5 v6 j v8 v9 u') w') :
    cd.wp Tryd.prog (Exit.then K Q) (FA v0 B false (.int .i64 wv) v5 v6 j v8 v9 u) w := by
  simp [rgR, rg, Tryd.f18] at hc
  subst hc
  unfold FA frL
  have HQ := Lib.hid hQ
  clear hQ
  have rf := RB.free
  have r1 := RB.cell (j := 0) rfl
  have r2 := RB.cell (j := 1) rfl
  have r3 := RB.cell (j := 2) rfl
  have r4 := RB.cell (j := 3) rfl
  have RBH := Lib.hid RB
  have HBH := Lib.hid HB
  have HLE := Lib.hid hle
  clear RB HB hle
  go_wp2_with fail
  refine fr_any (K := K) rfl (fun u' => HQ.out u' _ (blk_put4 RBH.out _ _ _ _) (below_put4A HBH.out HLE.out _ _ _ _))
end Go.Proofs.YtcodncddaemhlaaDoor
/- What a rule of the reference's ruled tells, where it draws: each region a theorem of its own. -/
namespace Go.Proofs.YtcodncddaemhlaaDoor
open Go.RowKit

set_option maxRecDepth 100000 in
set_option maxHeartbeats 4000000 in
theorem arm28 (cd : Code) (hc : rgR 28 = some cd) (v0 : Value) (v4 : Value) (v6 v8 v9 : Value) (j : Int) (B : Nat) (pv n np : Int) (b0 off m c : Nat) (Ap : Option Addr) (lp cp : Nat) (u : Nat → Value) (w w0 : World) (hm : (0 : Int) < (m : Int)) (hn : IntKind.i64.wrap (n + np) = n + np) (h0 : w.cell? ⟨B, 2, none⟩ = some (.int .i64 n)) (h1 : w.cell? ⟨B, 3, none⟩ = some (.slice (some ⟨b0, off, none⟩) m c)) (h2 : w.cell? ⟨b0, off + 2, none⟩ = some (.int .i64 np)) (h3 : w.cell? ⟨b0, off + 3, none⟩ = some (.slice Ap lp cp)) (RB : Blk w (B + 1) 24 [.int .i64 0, .string ⟨#[]⟩, .int .i64 0, .slice none 0 0]) (HB : Below w0.heap.size w0 w) (hle : w0.heap.size ≤ B + 1) (K : Act → World → Prop) (Q : Exit → Act → World → Prop)
    (hQ : ∀ (u' : Nat → Value) (w' : World), Blk w' (B + 1) 24 [.int .i64 pv, .string ⟨#[]⟩, .int .i64 (n + np), .slice Ap lp cp] → Below w0.heap.size w0 w' → K (FA v0 B true v4 (.int .i64 pv) v6 j v8 v9 u') w') :
    cd.wp Tryd.prog (Exit.then K Q) (FA v0 B false v4 (.int .i64 pv) v6 j v8 v9 u) w := by
  simp [rgR, rg, Tryd.f18] at hc
  subst hc
  unfold FA frL
  have HQ := Lib.hid hQ
  clear hQ
  have rf := RB.free
  have r1 := RB.cell (j := 0) rfl
  have r2 := RB.cell (j := 1) rfl
  have r3 := RB.cell (j := 2) rfl
  have r4 := RB.cell (j := 3) rfl
  have RBH := Lib.hid RB
  have HBH := Lib.hid HB
  have HLE := Lib.hid hle
  clear RB HB hle
  have BDH := Lib.hid (Blk.drw RBH.out)
  have HDH := Lib.hid (Below.drew HBH.out)
  clear rf r1 r2 r3 r4
  have hmN : 0 < m := by omega
  go_still_tail 15, (by kernel_rfl)
  change wpList _ _ _ _ _ w.drew
  generalize w.drew = w2 at *
  have rf := BDH.out.free
  have r1 := BDH.out.cell (j := 0) rfl
  have r2 := BDH.out.cell (j := 1) rfl
  have r3 := BDH.out.cell (j := 2) rfl
  have r4 := BDH.out.cell (j := 3) rfl
  go_wp2_with fail
  refine fr_any (K := K) rfl (fun u' => HQ.out u' _ (blk_put4 BDH.out _ _ _ _) (below_put4A HDH.out HLE.out _ _ _ _))
set_option maxRecDepth 100000 in
set_option maxHeartbeats 4000000 in
theorem arm18 (cd : Code) (hc : rgR 18 = some cd) (v0 : Value) (v4 : Value) (v5 : Value) (v6 v8 v9 : Value) (j : Int) (B : Nat) (k : Int) (b0 off c : Nat) (kp np : Int) (sp : ByteArray) (Ap : Option Addr) (lp cp : Nat) (kq nq : Int) (sq : ByteArray) (Aq : Option Addr) (lq cq : Nat) (u : Nat → Value) (w w0 : World) (hne : b0 ≠ B + 1) (h0 : w.cell? ⟨B, 0, none⟩ = some (.int .i64 k)) (h1 : w.cell? ⟨B, 3, none⟩ = some (.slice (some ⟨b0, off, none⟩) 2 c)) (h2 : w.cell? ⟨b0, off, none⟩ = some (.int .i64 kp)) (h3 : w.cell? ⟨b0, off + 1, none⟩ = some (.string sp)) (h4 : w.cell? ⟨b0, off + 2, none⟩ = some (.int .i64 np)) (h5 : w.cell? ⟨b0, off + 3, none⟩ = some (.slice Ap lp cp)) (h6 : w.cell? ⟨b0, off + 4, none⟩ = some (.int .i64 kq)) (h7 : w.cell? ⟨b0, off + 4 + 1, none⟩ = some (.string sq)) (h8 : w.cell? ⟨b0, off + 4 + 2, none⟩ = some (.int .i64 nq)) (h9 : w.cell? ⟨b0, off + 4 + 3, none⟩ = some (.slice Aq lq cq)) (RB : Blk w (B + 1) 24 [.int .i64 0, .string ⟨#[]⟩, .int .i64 0, .slice none 0 0]) (HB : Below w0.heap.size w0 w) (hle : w0.heap.size ≤ B + 1) (K : Act → World → Prop) (Q : Exit → Act → World → Prop)
    (hQ : ∀ (u' : Nat → Value) (w' : World),  (∃ G, w0.heap.size ≤ G ∧ (∀ i v, ([.int .i64 kq, .string sq, .int .i64 nq, .slice Aq lq cq, .int .i64 kp, .string sp, .int .i64 np, .slice Ap lp cp] : List Value)[i]? = some v → w'.cell? ⟨G, i, none⟩ = some v) ∧ Blk w' (B + 1) 24 [.int .i64 k, .string ⟨#[]⟩, .int .i64 0, .slice (some ⟨G, 0, none⟩) 2 2]) → Below w0.heap.size w0 w' → K (FA v0 B true v4 v5 v6 j v8 v9 u') w') :
    cd.wp Tryd.prog (Exit.then K Q) (FA v0 B false v4 v5 v6 j v8 v9 u) w := by
  simp [rgR, rg, Tryd.f18] at hc
  subst hc
  unfold FA frL
  have HQ := Lib.hid hQ
  clear hQ
  have rf := RB.free
  have r1 := RB.cell (j := 0) rfl
  have r2 := RB.cell (j := 1) rfl
  have r3 := RB.cell (j := 2) rfl
  have r4 := RB.cell (j := 3) rfl
  have RBH := Lib.hid RB
  have HBH := Lib.hid HB
  have HLE := Lib.hid hle
  clear RB HB hle
  have HSL := Lib.hid (fun W (hW : Below w.heap.size w W) => (⟨cell_keptA h0 hW, cell_keptA h1 hW, cell_keptA h2 hW, cell_keptA h3 hW, cell_keptA h4 hW, cell_keptA h5 hW, cell_keptA h6 hW, cell_keptA h7 hW, cell_keptA h8 hW, cell_keptA h9 hW⟩ : W.cell? ⟨B, 0, none⟩ = some (.int .i64 k) ∧ W.cell? ⟨B, 3, none⟩ = some (.slice (some ⟨b0, off, none⟩) 2 c) ∧ W.cell? ⟨b0, off, none⟩ = some (.int .i64 kp) ∧ W.cell? ⟨b0, off + 1, none⟩ = some (.string sp) ∧ W.cell? ⟨b0, off + 2, none⟩ = some (.int .i64 np) ∧ W.cell? ⟨b0, off + 3, none⟩ = some (.slice Ap lp cp) ∧ W.cell? ⟨b0, off + 4, none⟩ = some (.int .i64 kq) ∧ W.cell? ⟨b0, off + 4 + 1, none⟩ = some (.string sq) ∧ W.cell? ⟨b0, off + 4 + 2, none⟩ = some (.int .i64 nq) ∧ W.cell? ⟨b0, off + 4 + 3, none⟩ = some (.slice Aq lq cq)))
  have HB8 := Lib.hid (below_new HBH.out (.cells #[.int .i64 kq, .string sq, .int .i64 nq, .slice Aq lq cq, .int .i64 kp, .string sp, .int .i64 np, .slice Ap lp cp] 24))
  have RB8 := Lib.hid (RBH.out.below (below_new (Below.refl _ _) (.cells #[.int .i64 kq, .string sq, .int .i64 nq, .slice Aq lq cq, .int .i64 kp, .string sp, .int .i64 np, .slice Ap lp cp] 24)) RBH.out.lt)
  have n1 := RB8.out.cell (j := 0) rfl
  have n2 := RB8.out.cell (j := 1) rfl
  have n3 := RB8.out.cell (j := 2) rfl
  have n4 := RB8.out.cell (j := 3) rfl
  have nf := RB8.out.free
  have HGE : Hid (w0.heap.size ≤ w.heap.size) := Lib.hid HBH.out.size
  have HNE : Hid (w.heap.size ≠ B + 1) := Lib.hid (by have := RBH.out.lt; omega)
  have HC8 : Hid (∀ i v, ([.int .i64 kq, .string sq, .int .i64 nq, .slice Aq lq cq, .int .i64 kp, .string sp, .int .i64 np, .slice Ap lp cp] : List Value)[i]? = some v → (w.alloc (.cells #[.int .i64 kq, .string sq, .int .i64 nq, .slice Aq lq cq, .int .i64 kp, .string sp, .int .i64 np, .slice Ap lp cp] 24)).cell? ⟨w.heap.size, i, none⟩ = some v) := Lib.hid (fun i v hv => by
    rw [World.cell?_alloc_at _ _ _ _ rfl]
    simpa using hv)
  have hnB : B ≠ B + 1 := by omega
  have HSW : Hid ((fun W : World => W.cell? ⟨B, 0, none⟩ = some (.int .i64 k) ∧ W.cell? ⟨B, 3, none⟩ = some (.slice (some ⟨b0, off, none⟩) 2 c) ∧ W.cell? ⟨b0, off, none⟩ = some (.int .i64 kp) ∧ W.cell? ⟨b0, off + 1, none⟩ = some (.string sp) ∧ W.cell? ⟨b0, off + 2, none⟩ = some (.int .i64 np) ∧ W.cell? ⟨b0, off + 3, none⟩ = some (.slice Ap lp cp) ∧ W.cell? ⟨b0, off + 4, none⟩ = some (.int .i64 kq) ∧ W.cell? ⟨b0, off + 4 + 1, none⟩ = some (.string sq) ∧ W.cell? ⟨b0, off + 4 + 2, none⟩ = some (.int .i64 nq) ∧ W.cell? ⟨b0, off + 4 + 3, none⟩ = some (.slice Aq lq cq)) ((((((w.alloc (.cells #[.int .i64 kq, .string sq, .int .i64 nq, .slice Aq lq cq, .int .i64 kp, .string sp, .int .i64 np, .slice Ap lp cp] 24)).setCell ⟨B + 1, 0, none⟩ (.int .i64 k)).setCell ⟨B + 1, 1, none⟩ (.string ⟨#[]⟩)).setCell ⟨B + 1, 2, none⟩ (.int .i64 0)).setCell ⟨B + 1, 3, none⟩ (.slice (some ⟨w.heap.size, 0, none⟩) 2 2)).drew)) := Lib.hid ⟨cell_drewA (cell_put4A (cell_keptA h0 (below_new (Below.refl _ _) _)) hnB _ _ _ _), cell_drewA (cell_put4A (cell_keptA h1 (below_new (Below.refl _ _) _)) hnB _ _ _ _), cell_drewA (cell_put4A (cell_keptA h2 (below_new (Below.refl _ _) _)) hne _ _ _ _), cell_drewA (cell_put4A (cell_keptA h3 (below_new (Below.refl _ _) _)) hne _ _ _ _), cell_drewA (cell_put4A (cell_keptA h4 (below_new (Below.refl _ _) _)) hne _ _ _ _), cell_drewA (cell_put4A (cell_keptA h5 (below_new (Below.refl _ _) _)) hne _ _ _ _), cell_drewA (cell_put4A (cell_keptA h6 (below_new (Below.refl _ _) _)) hne _ _ _ _), cell_drewA (cell_put4A (cell_keptA h7 (below_new (Below.refl _ _) _)) hne _ _ _ _), cell_drewA (cell_put4A (cell_keptA h8 (below_new (Below.refl _ _) _)) hne _ _ _ _), cell_drewA (cell_put4A (cell_keptA h9 (below_new (Below.refl _ _) _)) hne _ _ _ _)⟩
  clear hnB
  have bd : Below w.heap.size w w.drew := Below.drew (Below.refl _ _)
  go_region_held3 (fun W => W.cell? ⟨B, 0, none⟩ = some (.int .i64 k) ∧ W.cell? ⟨B, 3, none⟩ = some (.slice (some ⟨b0, off, none⟩) 2 c) ∧ W.cell? ⟨b0, off, none⟩ = some (.int .i64 kp) ∧ W.cell? ⟨b0, off + 1, none⟩ = some (.string sp) ∧ W.cell? ⟨b0, off + 2, none⟩ = some (.int .i64 np) ∧ W.cell? ⟨b0, off + 3, none⟩ = some (.slice Ap lp cp) ∧ W.cell? ⟨b0, off + 4, none⟩ = some (.int .i64 kq) ∧ W.cell? ⟨b0, off + 4 + 1, none⟩ = some (.string sq) ∧ W.cell? ⟨b0, off + 4 + 2, none⟩ = some (.int .i64 nq) ∧ W.cell? ⟨b0, off + 4 + 3, none⟩ = some (.slice Aq lq cq))
    ((first | exact HSW.out | (refine HSL.out _ ?_; first | assumption | exact Below.drew (by assumption) | exact below_new (Below.refl _ _) _ | exact below_new (Below.drew (Below.refl _ _)) _)))
    ((fail))
  refine fr_any (K := K) rfl (fun u' => HQ.out u' _ ⟨w.heap.size, HGE.out, fun i v hv => cell_drewA (cell_put4A (HC8.out i v hv) HNE.out _ _ _ _), Blk.drw (blk_put4 RB8.out _ _ _ _)⟩ (Below.drew (below_put4A HB8.out HLE.out _ _ _ _)))
set_option maxRecDepth 100000 in
set_option maxHeartbeats 4000000 in
theorem arm32 (cd : Code) (hc : rgR 32 = some cd) (v0 : Value) (v4 : Value) (v5 : Value) (v6 v8 v9 : Value) (j : Int) (B : Nat) (b0 off c b2 of2 : Nat) (cq : Nat) (kp np : Int) (sp : ByteArray) (Ap : Option Addr) (lp cp : Nat) (kr nr : Int) (sr : ByteArray) (Ar : Option Addr) (lr cr : Nat) (u : Nat → Value) (w w0 : World) (h0 : w.cell? ⟨B, 3, none⟩ = some (.slice (some ⟨b0, off, none⟩) 2 c)) (h1 : w.cell? ⟨b0, off, none⟩ = some (.int .i64 kp)) (h2 : w.cell? ⟨b0, off + 1, none⟩ = some (.string sp)) (h3 : w.cell? ⟨b0, off + 2, none⟩ = some (.int .i64 np)) (h4 : w.cell? ⟨b0, off + 3, none⟩ = some (.slice Ap lp cp)) (h5 : w.cell? ⟨b0, off + 4 + 3, none⟩ = some (.slice (some ⟨b2, of2, none⟩) 2 cq)) (h6 : w.cell? ⟨b2, of2 + 4, none⟩ = some (.int .i64 kr)) (h7 : w.cell? ⟨b2, of2 + 4 + 1, none⟩ = some (.string sr)) (h8 : w.cell? ⟨b2, of2 + 4 + 2, none⟩ = some (.int .i64 nr)) (h9 : w.cell? ⟨b2, of2 + 4 + 3, none⟩ = some (.slice Ar lr cr)) (RB : Blk w (B + 1) 24 [.int .i64 0, .string ⟨#[]⟩, .int .i64 0, .slice none 0 0]) (HB : Below w0.heap.size w0 w) (hle : w0.heap.size ≤ B + 1) (K : Act → World → Prop) (Q : Exit → Act → World → Prop)
    (hQ : ∀ (u' : Nat → Value) (w' : World),  (∃ G, w0.heap.size ≤ G ∧ (∀ i v, ([.int .i64 kp, .string sp, .int .i64 np, .slice Ap lp cp, .int .i64 kr, .string sr, .int .i64 nr, .slice Ar lr cr] : List Value)[i]? = some v → w'.cell? ⟨G, i, none⟩ = some v) ∧ Blk w' (B + 1) 24 [.int .i64 6, .string ⟨#[]⟩, .int .i64 0, .slice (some ⟨G, 0, none⟩) 2 2]) → Below w0.heap.size w0 w' → K (FA v0 B true v4 v5 v6 j v8 v9 u') w') :
    cd.wp Tryd.prog (Exit.then K Q) (FA v0 B false v4 v5 v6 j v8 v9 u) w := by
  simp [rgR, rg, Tryd.f18] at hc
  subst hc
  unfold FA frL
  have HQ := Lib.hid hQ
  clear hQ
  have rf := RB.free
  have r1 := RB.cell (j := 0) rfl
  have r2 := RB.cell (j := 1) rfl
  have r3 := RB.cell (j := 2) rfl
  have r4 := RB.cell (j := 3) rfl
  have RBH := Lib.hid RB
  have HBH := Lib.hid HB
  have HLE := Lib.hid hle
  clear RB HB hle
  have BDH := Lib.hid (Blk.drw RBH.out)
  have HDH := Lib.hid (Below.drew HBH.out)
  clear rf r1 r2 r3 r4

  go_still_tail 11, (by kernel_rfl)
  change wpList _ _ _ _ _ w.drew
  generalize w.drew = w2 at *
  have rf := BDH.out.free
  have r1 := BDH.out.cell (j := 0) rfl
  have r2 := BDH.out.cell (j := 1) rfl
  have r3 := BDH.out.cell (j := 2) rfl
  have r4 := BDH.out.cell (j := 3) rfl
  have HB8 := Lib.hid (below_new HDH.out (.cells #[.int .i64 kp, .string sp, .int .i64 np, .slice Ap lp cp, .int .i64 kr, .string sr, .int .i64 nr, .slice Ar lr cr] 24))
  have RB8 := Lib.hid (BDH.out.below (below_new (Below.refl _ _) (.cells #[.int .i64 kp, .string sp, .int .i64 np, .slice Ap lp cp, .int .i64 kr, .string sr, .int .i64 nr, .slice Ar lr cr] 24)) BDH.out.lt)
  have n1 := RB8.out.cell (j := 0) rfl
  have n2 := RB8.out.cell (j := 1) rfl
  have n3 := RB8.out.cell (j := 2) rfl
  have n4 := RB8.out.cell (j := 3) rfl
  have nf := RB8.out.free
  have HGE : Hid (w0.heap.size ≤ w2.heap.size) := Lib.hid HDH.out.size
  have HNE : Hid (w2.heap.size ≠ B + 1) := Lib.hid (by have := BDH.out.lt; omega)
  have HC8 : Hid (∀ i v, ([.int .i64 kp, .string sp, .int .i64 np, .slice Ap lp cp, .int .i64 kr, .string sr, .int .i64 nr, .slice Ar lr cr] : List Value)[i]? = some v → (w2.alloc (.cells #[.int .i64 kp, .string sp, .int .i64 np, .slice Ap lp cp, .int .i64 kr, .string sr, .int .i64 nr, .slice Ar lr cr] 24)).cell? ⟨w2.heap.size, i, none⟩ = some v) := Lib.hid (fun i v hv => by
    rw [World.cell?_alloc_at _ _ _ _ rfl]
    simpa using hv)
  go_wp2_with fail
  refine fr_any (K := K) rfl (fun u' => HQ.out u' _ ⟨w2.heap.size, HGE.out, fun i v hv => cell_put4A (HC8.out i v hv) HNE.out _ _ _ _, blk_put4 RB8.out _ _ _ _⟩ (below_put4A HB8.out HLE.out _ _ _ _))
end Go.Proofs.YtcodncddaemhlaaDoor
