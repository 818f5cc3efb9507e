/- Contract: one way more (package cut): helpers. -/
import Derived.Test.YtonmkmghpiagjaaDoorCut2
import Derived.Test.YtonmkmghpiagjaaDoorCutRev
import Derived.Test.YtonmkmghpiagjaaDoorCutFl
namespace Go.Proofs.YtonmkmghpiagjaaDoor
open Go.RowKit Go.ChangeMaps

theorem spt_len {R : List Spt} {n : Nat} (hn : R.Nodup) (h : ∀ s ∈ R, s.1 < n) : R.length ≤ 2 * n := by
  have h2 := pig2 (R.map fun s => 2 * s.1 + (if s.2 then 1 else 0)) (List.range (2 * n)) (map_nodup _ hn (fun x _ y _ e => by
      obtain ⟨x1, x2⟩ := x
      obtain ⟨y1, y2⟩ := y
      simp only at e
      cases x2 <;> cases y2 <;> simp at e ⊢ <;> omega)) (fun x hx => by
    obtain ⟨s, hs, rfl⟩ := List.mem_map.1 hx
    have := h s hs
    rw [List.mem_range]
    split <;> omega)
  rw [List.length_map, List.length_range] at h2
  exact h2
/-- 'append(row, spot)', row the call's own. -/
theorem wpList_pushS {ops : Array Oper} {rest : List Oper} {o : Oper} {a : Act} {Q : Exit → Act → World → Prop} (wr : World) (s x : Operand) (B : Nat) (A : Option Addr) (n c : Nat) (L : List Spt) (p : Spt)
    (hown : wr.ownsRow B 104 2 (.slice A n c) n (spv L)) (hB : B ≤ wr.heap.size) (hn : (n + 1) * 16 ≤ 140737488355328)
    (hgd : o.guard = none) (ho : o.op = .call { callee := .builtin .append, args := #[s, x], argTypes := #[142, 142] })
    (hs : a.eval s = .slice A n c) (hx : a.eval x = .slice (some ⟨wr.heap.size, 0, none⟩) 1 1)
    (h : ∀ g c' w', w'.ownsRow B 104 2 (.slice (some ⟨g, 0, none⟩) (n + 1) c') (n + 1) (spv (L ++ [p])) → Below B wr w' → wr.grownBy w' (Value.slice A n c).ownBlock → wpList Tryd.prog ops Q rest (a.put o.dst (.slice (some ⟨g, 0, none⟩) (n + 1) c')) w') :
    wpList Tryd.prog ops Q (o :: rest) a (wr.alloc (.cells #[.int .i64 (p.1 : Int), .bool p.2] 104)) := by
  obtain ⟨i, hi, hz, h1, hb⟩ := spotInfo
  have ht : Tryd.prog.underlying 142 = some (.slice 104) := by kernel_rfl
  have hB' : B ≤ (wr.alloc (.cells #[.int .i64 (p.1 : Int), .bool p.2] 104)).heap.size := by simp; omega
  refine wpList_append_own_at _ hgd s x 142 ho B 104 i _ 2 16 ht hi hz h1 hb rfl (by decide) (.slice A n c) n (spv L) hs (hown.alloc _) ⟨wr.heap.size, 0, none⟩ 1 1 [.int .i64 (p.1 : Int), .bool p.2] hx rfl ?_ (by intro u hu; simp at hu; rcases hu with rfl | rfl <;> rfl) (by unfold maxLen; omega) hn hB' ?_
  · intro j u hj
    rw [Addr.add_lit, World.cell?_alloc_at _ _ _ _ rfl, Nat.zero_add]
    simpa using hj
  · intro v' w' hown' hg hnil _
    have hne : v' ≠ .slice none 0 0 := fun e => by have := (hnil.1 e).2; omega
    rcases hown'.2 with ⟨h', _⟩ | ⟨g, cap, cur, h', _⟩
    · exact absurd h' hne
    · subst h'
      refine h g cap w' (by rw [spv_snoc]; exact hown') ?_ ?_
      · exact ((Below.refl B wr).alloc hB _).grown hg hB' (fun k hk => (hown.lt k hk).1)
      · exact grown_alloc hg
/-- Pairs of numbers, as cells. -/
def dV (L : List (Nat × Nat)) : List Value := L.flatMap fun d => [.int .i64 (d.1 : Int), .int .i64 (d.2 : Int)]
theorem dV_snoc (L : List (Nat × Nat)) (d : Nat × Nat) : dV (L ++ [d]) = dV L ++ [.int .i64 (d.1 : Int), .int .i64 (d.2 : Int)] := by unfold dV; rw [List.flatMap_append]; simp
theorem dV_at {L : List (Nat × Nat)} {i : Nat} {d : Nat × Nat} (h : L[i]? = some d) : (dV L)[2 * i]? = some (.int .i64 (d.1 : Int)) ∧ (dV L)[2 * i + 1]? = some (.int .i64 (d.2 : Int)) := by
  induction L generalizing i with
  | nil => simp at h
  | cons t L ih =>
    cases i with
    | zero =>
      simp at h
      subst h
      exact ⟨rfl, rfl⟩
    | succ i =>
      simp at h
      obtain ⟨h1, h2⟩ := ih h
      have e1 : 2 * (i + 1) = 2 * i + 1 + 1 := by omega
      have e2 : 2 * (i + 1) + 1 = 2 * i + 1 + 1 + 1 := by omega
      have e3 : dV (t :: L) = .int .i64 (t.1 : Int) :: .int .i64 (t.2 : Int) :: dV L := rfl
      rw [e1, e3]
      simp only [List.getElem?_cons_succ]
      exact ⟨h1, h2⟩
theorem own_dv {w : World} {B g m c i : Nat} {L : List (Nat × Nat)} {d : Nat × Nat} (h : w.ownsRow B 172 2 (.slice (some ⟨g, 0, none⟩) m c) m (dV L)) (hm : L.length = m) (hi : L[i]? = some d) :
    w.cell? ⟨g, i * 2, none⟩ = some (.int .i64 (d.1 : Int)) ∧ w.cell? ⟨g, i * 2 + 1, none⟩ = some (.int .i64 (d.2 : Int)) := by
  obtain ⟨h1, h2⟩ := dV_at hi
  have hlt := getElem?_lt hi
  rw [h.cellAt (i * 2) (by omega), h.cellAt (i * 2 + 1) (by omega), Nat.mul_comm i 2]
  exact ⟨h1, h2⟩
theorem own_someD {w : World} {B : Nat} {e : TypeId} {sz : Nat} {A : Option Addr} {n c : Nat} {xs : List Value} (h : w.ownsRow B e sz (.slice A n c) n xs) (hn : 0 < n) : ∃ g, A = some ⟨g, 0, none⟩ := by
  rcases h.2 with ⟨e, _⟩ | ⟨g, cap, cur, e, _⟩
  · injection e with _ e _
    omega
  · injection e with e _ _
    exact ⟨g, e⟩
theorem pairInfo : ∃ i, Tryd.prog.info? 172 = some i ∧ i.zero = some (.agg #[.int .i64 0, .int .i64 0]) ∧ i.size = 2 ∧ i.bytes = 16 := by
  have h : (Tryd.prog.info? 172).map (fun i => (i.zero, i.size, i.bytes)) = some (some (.agg #[.int .i64 0, .int .i64 0]), 2, 16) := by kernel_rfl
  cases hi : Tryd.prog.info? 172 with
  | none => rw [hi] at h; cases h
  | some i =>
    rw [hi] at h
    simp at h
    exact ⟨i, rfl, h⟩
/-- 'append(adds, [2]int{..})'. -/
theorem wpList_pushD {ops : Array Oper} {rest : List Oper} {o : Oper} {a : Act} {Q : Exit → Act → World → Prop} (wr : World) (s x : Operand) (B : Nat) (A : Option Addr) (n c : Nat) (L : List (Nat × Nat)) (p : Nat × Nat)
    (hown : wr.ownsRow B 172 2 (.slice A n c) n (dV L)) (hB : B ≤ wr.heap.size) (hn : (n + 1) * 16 ≤ 140737488355328)
    (hgd : o.guard = none) (ho : o.op = .call { callee := .builtin .append, args := #[s, x], argTypes := #[171, 171] })
    (hs : a.eval s = .slice A n c) (hx : a.eval x = .slice (some ⟨wr.heap.size, 0, none⟩) 1 1)
    (h : ∀ g c' w', w'.ownsRow B 172 2 (.slice (some ⟨g, 0, none⟩) (n + 1) c') (n + 1) (dV (L ++ [p])) → wr.grownBy w' (Value.slice A n c).ownBlock → (ob A = some g ∨ wr.heap.size ≤ g) → wpList Tryd.prog ops Q rest (a.put o.dst (.slice (some ⟨g, 0, none⟩) (n + 1) c')) w') :
    wpList Tryd.prog ops Q (o :: rest) a (wr.alloc (.cells #[.int .i64 (p.1 : Int), .int .i64 (p.2 : Int)] 172)) := by
  obtain ⟨i, hi, hz, h1, hb⟩ := pairInfo
  have ht : Tryd.prog.underlying 171 = some (.slice 172) := by kernel_rfl
  have hB' : B ≤ (wr.alloc (.cells #[.int .i64 (p.1 : Int), .int .i64 (p.2 : Int)] 172)).heap.size := by simp; omega
  refine wpList_append_own_at _ hgd s x 171 ho B 172 i _ 2 16 ht hi hz h1 hb rfl (by decide) (.slice A n c) n (dV L) hs (hown.alloc _) ⟨wr.heap.size, 0, none⟩ 1 1 [.int .i64 (p.1 : Int), .int .i64 (p.2 : Int)] hx rfl ?_ (by intro u hu; simp at hu; rcases hu with rfl | rfl <;> rfl) (by unfold maxLen; omega) hn hB' ?_
  · intro j u hj
    rw [Addr.add_lit, World.cell?_alloc_at _ _ _ _ rfl, Nat.zero_add]
    simpa using hj
  · intro v' w' hown' hg hnil hor
    have hne : v' ≠ .slice none 0 0 := fun e => by have := (hnil.1 e).2; omega
    rcases hown'.2 with ⟨h', _⟩ | ⟨g, cap, cur, h', _⟩
    · exact absurd h' hne
    · subst h'
      refine h g cap w' (by rw [dV_snoc]; exact hown') (grown_alloc hg) ?_
      rw [ob_own, ob_own] at hor
      rcases hor with e | e
      · exact .inl e.symm
      · right
        injection e with e
        rw [show g = _ from e]
        simp
theorem below_drew' {B : Nat} {w w' : World} (h : Below B w w') : Below B w w'.drew := ⟨h.os, h.tape, h.output, h.size, h.block⟩
theorem below_new5 {B : Nat} {w w' : World} {o : Obj} (h : Below B w w') (hB : B ≤ w.heap.size := by first | exact Nat.le_refl _ | omega) : Below B w (w'.alloc o) := h.alloc (Nat.le_trans hB h.size) o
set_option maxRecDepth 4000 in
theorem look_at {l : List Nat} {a b : Nat} {st : Fl} {w : World} {bm : Nat} {M : List (Spt × Spt)} {q i s1 t1 : Nat} {s2 t2 : Bool} (hb : MapB w bm M) (hk : ∀ s ∈ keysM M, s.1 < 64) (hs : s1 < 64) (h : SInv l a b st M q) (hi : M[i]? = some ((s1, s2), (t1, t2))) :
    (Instr.lookup 101 (.map (some bm)) (.agg #[.int .i64 (s1 : Int), .bool s2]) false).run Tryd.prog w = .ok (.agg #[.int .i64 (t1 : Int), .bool t2]) w := by
  rcases run_look hb hk (s1, s2) hs false with ⟨hn, _⟩ | ⟨j, t, hj, hl⟩
  · exact absurd (keysM_at hi) hn
  · have hij := key_pos h hi hj
    subst hij
    rw [hi] at hj
    injection hj with hj
    injection hj with _ hj
    subst hj
    rw [if_neg (by decide)] at hl
    exact hl
theorem pairsL_len {f : Spt → Spt → List (Nat × Nat)} (hf : ∀ s t, (f s t).length ≤ 1) (p : List Spt) (k : Nat) : (pairsL f p k).length ≤ k := by
  induction k with
  | zero => exact Nat.le_refl _
  | succ k ih =>
    unfold pairsL
    rw [List.length_append]
    have : (pairO f p k).length ≤ 1 := by
      unfold pairO
      split
      · exact hf _ _
      · exact Nat.zero_le _
    omega
theorem addO_len (s t : Spt) : (addO s t).length ≤ 1 := by unfold addO; split <;> (try split) <;> simp
theorem dropO_len (s t : Spt) : (dropO s t).length ≤ 1 := by unfold dropO; split <;> (try split) <;> simp
theorem two_new (w : World) (c1 c2 : Array Value) (e : TypeId) : Blk ((w.alloc (.cells c1 e)).alloc (.cells c2 e)).drew w.heap.size e c1.toList ∧ Blk ((w.alloc (.cells c1 e)).alloc (.cells c2 e)).drew (w.heap.size + 1) e c2.toList ∧ Below w.heap.size w ((w.alloc (.cells c1 e)).alloc (.cells c2 e)).drew := by
  refine ⟨?_, ?_, below_drew' (below_new (below_new (Below.refl _ _) _) _)⟩
  · show ((w.alloc (.cells c1 e)).alloc (.cells c2 e)).heap[w.heap.size]? = _
    rw [Below.heap_alloc _ _ _ (by simp), heap_alloc_new, Array.toArray_toList]
  · have h := Blk.new (w.alloc (.cells c1 e)) c2 e
    simp only [World.size_alloc] at h
    exact h
theorem cell_two {w : World} {g o : Nat} {v : Value} (h : w.cell? ⟨g, o, none⟩ = some v) (hg : g < w.heap.size) : (∀ x : Obj, (w.alloc x).cell? ⟨g, o, none⟩ = some v) ∧ ∀ x y : Obj, ((w.alloc x).alloc y).cell? ⟨g, o, none⟩ = some v := by
  have h1 : ∀ x : Obj, (w.alloc x).cell? ⟨g, o, none⟩ = some v := fun x => by rw [World.cell?_alloc_lt _ _ _ hg]; exact h
  exact ⟨h1, fun x y => by rw [World.cell?_alloc_lt _ _ _ (by simp; omega)]; exact h1 x⟩
theorem own_belowN {w w' : World} {B : Nat} {e : TypeId} {sz : Nat} {v : Value} {n : Nat} {xs : List Value} (h : w.ownsRow B e sz v n xs) (hb : Below w.heap.size w w') : w'.ownsRow B e sz v n xs :=
  h.kept (w' := w') (row := none) ⟨hb.os, hb.tape, hb.output, hb.size, fun k hk _ => hb.block k hk⟩ (by
    cases hv : v.ownBlock with
    | none => exact .inl rfl
    | some g => exact .inr (by simp))
theorem own_ob' {w : World} {B n c : Nat} {e : TypeId} {A : Option Addr} {xs : List Value} {sz : Nat} (h : w.ownsRow B e sz (.slice A n c) n xs) {g : Nat} (hg : ob A = some g) : B ≤ g ∧ g < w.heap.size := h.lt g (by rw [ob_own]; exact hg)
theorem meas_lt2 {k m : Nat} (h : k + 1 < m) : m - (intOf (.int .i64 ((k : Int) + 1 + 1))).toNat < m - (intOf (.int .i64 ((k : Int) + 1))).toNat := by
  simp [intOf]
  omega
theorem Blk.grownB {w w' : World} {b BF : Nat} {t : TypeId} {vs : List Value} {F : Option Addr} {n c : Nat} (h : Blk w b t vs) (hg : w.grownBy w' (Value.slice F n c).ownBlock) (hb : b < w.heap.size) (hF : ∀ x, ob F = some x → x ≠ b) (hB : b ≠ BF) (u : Value) : Blk (w'.setCell ⟨BF, 5, none⟩ u) b t vs := by
  rw [ob_own] at hg
  refine Blk.other ?_ hB u
  unfold Blk
  rw [hg.block b hb (fun e => hF b e.symm rfl)]
  exact h
end Go.Proofs.YtonmkmghpiagjaaDoor
