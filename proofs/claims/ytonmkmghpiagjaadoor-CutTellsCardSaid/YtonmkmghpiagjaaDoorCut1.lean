/- Package cut: how a search lies in memory; contract of its put. Numbers below 64. -/
import Derived.Test.YtonmkmghpiagjaaDoorCutMap
import Derived.Test.YtonmkmghpiagjaaDoorCutRow
import Derived.Test.YtonmkmghpiagjaaDoorKnot1
import Derived.BigRegion
namespace Go.Proofs.YtonmkmghpiagjaaDoor
open Go.RowKit Go.ChangeMaps

def spv (L : List Spt) : List Value := L.flatMap fun s => [.int .i64 (s.1 : Int), .bool s.2]
theorem spv_len (L : List Spt) : (spv L).length = L.length * 2 := by
  unfold spv
  induction L with
  | nil => rfl
  | cons s L ih => rw [List.flatMap_cons, List.length_append, ih, List.length_cons]; simp; omega
theorem spv_snoc (L : List Spt) (s : Spt) : spv (L ++ [s]) = spv L ++ [.int .i64 (s.1 : Int), .bool s.2] := by unfold spv; rw [List.flatMap_append]; simp
theorem spv_drop (L : List Spt) : (spv L).drop 2 = spv (L.drop 1) := by
  cases L with
  | nil => rfl
  | cons s L => rfl
theorem spv_at {L : List Spt} {i : Nat} {s : Spt} (h : L[i]? = some s) : (spv L)[2 * i]? = some (.int .i64 (s.1 : Int)) ∧ (spv L)[2 * i + 1]? = some (.bool s.2) := by
  induction L generalizing i with
  | nil => simp at h
  | cons t L ih =>
    cases i with
    | zero =>
      simp at h
      subst h
      exact ⟨rfl, rfl⟩
    | succ i =>
      simp at h
      obtain ⟨h1, h2⟩ := ih h
      have e1 : 2 * (i + 1) = 2 * i + 1 + 1 := by omega
      have e2 : 2 * (i + 1) + 1 = 2 * i + 1 + 1 + 1 := by omega
      have e3 : spv (t :: L) = .int .i64 (t.1 : Int) :: .bool t.2 :: spv L := rfl
      rw [e1, e3]
      simp only [List.getElem?_cons_succ]
      exact ⟨h1, h2⟩
structure SR (W0 w : World) (B4 B5 bm : Nat) (v : Value) (M : List (Spt × Spt)) (q : Nat) : Prop where
  bel : Below W0.heap.size W0 w
  b4 : Blk w B4 101 [.map (some bm)]
  b5 : Blk w B5 142 [v]
  mp : MapB w bm M
  td : OffRow w W0.heap.size 104 2 v (M.length - q) (spv ((keysM M).drop q))
  n4 : W0.heap.size ≤ B4
  n5 : W0.heap.size ≤ B5
  nm : W0.heap.size ≤ bm
  d45 : B4 ≠ B5
  dm4 : bm ≠ B4
  dm5 : bm ≠ B5
  dt : ∀ g, v.ownBlock = some g → g ≠ B4 ∧ g ≠ B5 ∧ g ≠ bm
structure SF (B5 bm : Nat) (w w' : World) (v v' : Value) : Prop where
  size : w.heap.size ≤ w'.heap.size
  blk : ∀ b, b < w.heap.size → b ≠ B5 → b ≠ bm → v.ownBlock ≠ some b → w'.heap[b]? = w.heap[b]?
  nv : v'.ownBlock = v.ownBlock ∨ ∃ g, v'.ownBlock = some g ∧ w.heap.size ≤ g
section
variable {W0 w w1 w2 : World} {B4 B5 bm : Nat} {v v1 v2 : Value} {M : List (Spt × Spt)} {q : Nat}
theorem SF.refl (B5 bm : Nat) (w : World) (v : Value) : SF B5 bm w w v v := ⟨Nat.le_refl _, fun _ _ _ _ _ => rfl, .inl rfl⟩
theorem SF.trans (h1 : SF B5 bm w w1 v v1) (h2 : SF B5 bm w1 w2 v1 v2) : SF B5 bm w w2 v v2 := by
  have hz1 := h1.size
  have hz2 := h2.size
  refine ⟨by omega, fun b hb e1 e2 e3 => ?_, ?_⟩
  · rw [h2.blk b (by omega) e1 e2 (fun hc => ?_)]
    · exact h1.blk b hb e1 e2 e3
    · rcases h1.nv with h | ⟨g, hg, hle⟩
      · rw [h] at hc; exact e3 hc
      · rw [hg] at hc; injection hc with hc; omega
  · rcases h2.nv with h | ⟨g, hg, hle⟩
    · rw [h]; exact h1.nv
    · exact .inr ⟨g, hg, by omega⟩
theorem SF.below (hb : Below w.heap.size w w1) : SF B5 bm w w1 v v := ⟨hb.size, fun b h _ _ _ => hb.block b h, .inl rfl⟩
theorem SF.drew (h : SF B5 bm w w1 v v1) : SF B5 bm w w1.drew v v1 := ⟨h.size, h.blk, h.nv⟩
theorem SF.draw (k : Nat) (h : SF B5 bm w w1 v v1) : SF B5 bm w (w1.drewN k) v v1 := ⟨h.size, h.blk, h.nv⟩
theorem SR.lts (h : SR W0 w B4 B5 bm v M q) : B4 < w.heap.size ∧ B5 < w.heap.size ∧ bm < w.heap.size ∧ ∀ g, v.ownBlock = some g → g < w.heap.size :=
  ⟨h.b4.lt, h.b5.lt, (Array.getElem?_eq_some_iff.1 h.mp).1, fun _ hg => (h.td.lt hg).2⟩
theorem SR.below (h : SR W0 w B4 B5 bm v M q) (hb : Below w.heap.size w w1) : SR W0 w1 B4 B5 bm v M q := by
  obtain ⟨l1, l2, l3, l4⟩ := h.lts
  have := h.bel.size
  exact ⟨h.bel.trans (hb.mono this), h.b4.below hb l1, h.b5.below hb l2, h.mp.same (hb.block bm l3), h.td.same (fun g hg => hb.block g (l4 g hg)), h.n4, h.n5, h.nm, h.d45, h.dm4, h.dm5, h.dt⟩
/-- The map has one key more, the queue one element more. -/
theorem SR.put (h : SR W0 w B4 B5 bm v M q) (hq : q ≤ M.length) {s t : Spt} (hs : s ∉ keysM M) {wm w3 : World} {v' : Value}
    (hwm : wm = setBlock w bm (.map (entM (M ++ [(s, t)])) (M ++ [(s, t)]).length))
    (htd : OffRow w3 W0.heap.size 104 2 v' (M.length - q + 1) (spv ((keysM M).drop q) ++ [.int .i64 (s.1 : Int), .bool s.2])) (hg : wm.grownBy w3 v.ownBlock)
    (hn : v'.ownBlock = v.ownBlock ∨ ∃ g, v'.ownBlock = some g ∧ wm.heap.size ≤ g) :
    SR W0 (w3.setCell ⟨B5, 0, none⟩ v') B4 B5 bm v' (putM M s t) q ∧ SF B5 bm w (w3.setCell ⟨B5, 0, none⟩ v') v v' := by
  obtain ⟨l1, l2, l3, l4⟩ := h.lts
  have hsz : wm.heap.size = w.heap.size := by rw [hwm, setBlock_size]
  have hb0 := h.bel.size
  have same : ∀ b, b < w.heap.size → b ≠ bm → v.ownBlock ≠ some b → w3.heap[b]? = w.heap[b]? := fun b hb e1 e2 => by
    rw [hg.block b (by omega) (fun e => e2 e.symm), hwm, setBlock_other _ _ e1]
  have hvo : ∀ b, b < w.heap.size → v.ownBlock ≠ some b → v'.ownBlock ≠ some b := fun b hb hne e => by
    rcases hn with h1 | ⟨g, h1, h2⟩
    · rw [h1] at e; exact hne e
    · rw [h1] at e; injection e with e; omega
  have n4v : v.ownBlock ≠ some B4 := fun e => (h.dt _ e).1 rfl
  have n5v : v.ownBlock ≠ some B5 := fun e => (h.dt _ e).2.1 rfl
  have nmv : v.ownBlock ≠ some bm := fun e => (h.dt _ e).2.2 rfl
  have hsz3 := hg.size
  have hbelm : Below W0.heap.size W0 wm := by
    rw [hwm]
    refine ⟨h.bel.os, h.bel.tape, h.bel.output, by rw [setBlock_size]; exact h.bel.size, fun k hk => ?_⟩
    rw [setBlock_other _ _ (by have := h.nm; omega)]
    exact h.bel.block k hk
  have hbel3 : Below W0.heap.size W0 w3 := hbelm.grown hg (by omega) (fun k hk => (h.td.lt hk).1)
  refine ⟨⟨hbel3.setCell h.n5 v', ?_, ?_, ?_, ?_, h.n4, h.n5, h.nm, h.d45, h.dm4, h.dm5, fun g hg' => ?_⟩, ?_⟩
  · refine Blk.other ?_ h.d45 v'
    unfold Blk
    rw [same B4 l1 (fun e => h.dm4 e.symm) n4v]
    exact h.b4
  · have h5 : Blk w3 B5 142 [v] := by
      unfold Blk
      rw [same B5 l2 (fun e => h.dm5 e.symm) n5v]
      exact h.b5
    exact h5.same 0 v'
  · rw [putM_new hs]
    unfold MapB
    rw [Below.heap_setCell _ _ _ _ h.dm5, hg.block bm (by omega) (fun e => nmv e.symm), hwm]
    exact setBlock_same w bm _ l3
  · rw [putM_new hs, keysM_snoc, List.length_append, List.length_singleton, List.drop_append_of_le_length (by unfold keysM; rw [List.length_map]; exact hq), spv_snoc, show M.length + 1 - q = M.length - q + 1 by omega]
    refine htd.same (fun g hg' => Below.heap_setCell _ _ _ _ ?_)
    intro e
    exact hvo B5 l2 n5v (by rw [hg', e])
  · exact ⟨fun e => hvo B4 l1 n4v (e ▸ hg'), fun e => hvo B5 l2 n5v (e ▸ hg'), fun e => hvo bm l3 nmv (e ▸ hg')⟩
  · refine ⟨by simp; omega, fun b hb e1 e2 e3 => ?_, ?_⟩
    · rw [Below.heap_setCell _ _ _ _ e1, same b hb e2 e3]
    · rcases hn with h1 | ⟨g, h1, h2⟩
      · exact .inl h1
      · exact .inr ⟨g, h1, by omega⟩
end
theorem grown_alloc {w w' : World} {o : Obj} {r : Option Nat} (h : (w.alloc o).grownBy w' r) : w.grownBy w' r :=
  ⟨h.os, h.tape, h.output, Nat.le_trans (by simp) h.size, fun k hk hne => (h.block k (by simp; omega) hne).trans (Below.heap_alloc _ _ _ hk)⟩
/-- 'append(todo, spot)', todo cut at its front. -/
theorem wpList_pushSpot {ops : Array Oper} {rest : List Oper} {o : Oper} {a : Act} {Q : Exit → Act → World → Prop} (wr : World) (s x : Operand) (B : Nat) (v : Value) (n : Nat) (xs : List Value) (p : Spt)
    (hown : OffRow wr B 104 2 v n xs) (hB : B ≤ wr.heap.size) (hn : (n + 1) * 16 ≤ 140737488355328)
    (hgd : o.guard = none) (ho : o.op = .call { callee := .builtin .append, args := #[s, x], argTypes := #[142, 142] })
    (hs : a.eval s = v) (hx : a.eval x = .slice (some ⟨wr.heap.size, 0, none⟩) 1 1)
    (h : ∀ v' w', OffRow w' B 104 2 v' (n + 1) (xs ++ [.int .i64 (p.1 : Int), .bool p.2]) → wr.grownBy w' v.ownBlock → (v'.ownBlock = v.ownBlock ∨ ∃ g, v'.ownBlock = some g ∧ wr.heap.size ≤ g) → wpList Tryd.prog ops Q rest (a.put o.dst v') w') :
    wpList Tryd.prog ops Q (o :: rest) a (wr.alloc (.cells #[.int .i64 (p.1 : Int), .bool p.2] 104)) := by
  obtain ⟨i, hi, hz, h1, hb⟩ := spotInfo
  have ht : Tryd.prog.underlying 142 = some (.slice 104) := by kernel_rfl
  have ho2 : OffRow (wr.alloc (.cells #[.int .i64 (p.1 : Int), .bool p.2] 104)) B 104 2 v n xs := hown.same (fun g hg => Below.heap_alloc _ _ _ (hown.lt hg).2)
  refine wpList_push_off _ hgd s x 142 ho B 104 i _ 2 16 ht hi hz h1 hb rfl v n xs hs ho2 ⟨wr.heap.size, 0, none⟩ 1 1 [.int .i64 (p.1 : Int), .bool p.2] hx rfl ?_ (by intro u hu; simp at hu; rcases hu with rfl | rfl <;> rfl) (by unfold maxLen; omega) hn (by simp; omega) ?_
  · intro j u hj
    rw [Addr.add_lit, World.cell?_alloc_at _ _ _ _ rfl, Nat.zero_add]
    simpa using hj
  · intro v' w' hown' hg hor
    refine h v' w' hown' (grown_alloc hg) ?_
    rcases hor with h | h
    · exact .inl h
    · exact .inr ⟨_, h, by simp⟩
set_option maxHeartbeats 1000000 in
set_option maxRecDepth 4000 in
theorem put_any {W0 : World} {B4 B5 bm : Nat} {v : Value} {M : List (Spt × Spt)} {q : Nat} (s t : Spt) (w : World) (h : SR W0 w B4 B5 bm v M q) (hq : q ≤ M.length) (hk : ∀ s ∈ keysM M, s.1 < 64) (hs : s.1 < 64) (hM : M.length ≤ 128) :
    Calls Tryd.prog 104 #[sv s, sv t, .pointer (some ⟨B4, 0, none⟩), .pointer (some ⟨B5, 0, none⟩)] w fun e w' => e = .returned (.tuple #[]) ∧ ∃ v', SR W0 w' B4 B5 bm v' (putM M s t) q ∧ SF B5 bm w w' v v' := by
  obtain ⟨s1, s2⟩ := s
  obtain ⟨t1, t2⟩ := t
  have H := Lib.hid h
  have HB1 : Hid (Below w.heap.size w ((w.alloc (.cells #[.int .i64 (s1 : Int), .bool s2] 104)).alloc (.cells #[.int .i64 (t1 : Int), .bool t2] 104))) := Lib.hid (below_new (below_new (Below.refl _ _) _) _)
  have H1 := Lib.hid (h.below HB1.out)
  have c4 := H1.out.b4.cell (j := 0) rfl
  have HB2 : Hid (Below w.heap.size w (((w.alloc (.cells #[.int .i64 (s1 : Int), .bool s2] 104)).alloc (.cells #[.int .i64 (t1 : Int), .bool t2] 104)).alloc (.cells #[.int .i64 0, .bool false] 104))) := Lib.hid (below_new HB1.out _)
  have H2 := Lib.hid (h.below HB2.out)
  rcases run_look H1.out.mp hk (s1, s2) hs true with ⟨hn, hlk⟩ | ⟨j, by_, hj, hlk⟩
  · have HN := Lib.hid hn
    simp only [sv, if_true] at hlk
    have hup := run_new H2.out.mp hk (s1, s2) (t1, t2) hs hn
    simp only [sv] at hup
    have d4 := H2.out.b4.cell (j := 0) rfl
    have x1 : (((w.alloc (.cells #[.int .i64 (s1 : Int), .bool s2] 104)).alloc (.cells #[.int .i64 (t1 : Int), .bool t2] 104)).alloc (.cells #[.int .i64 0, .bool false] 104)).heap[w.heap.size]? = some (.cells #[.int .i64 (s1 : Int), .bool s2] 104 (0, 0)) := by
      rw [Below.heap_alloc _ _ _ (by simp; omega), Below.heap_alloc _ _ _ (by simp), heap_alloc_new]
    generalize hwm : setBlock (((w.alloc (.cells #[.int .i64 (s1 : Int), .bool s2] 104)).alloc (.cells #[.int .i64 (t1 : Int), .bool t2] 104)).alloc (.cells #[.int .i64 0, .bool false] 104)) bm _ = wm at hup
    have HWM := Lib.hid hwm
    have hlb := h.lts.2.2.1
    have y1 : Blk wm w.heap.size 104 [.int .i64 (s1 : Int), .bool s2] := by
      unfold Blk
      rw [← hwm, setBlock_other _ _ (by omega)]
      exact x1
    have z1 := y1.cell (j := 0) rfl
    have z2 := y1.cell (j := 1) rfl
    have y5 : Blk wm B5 142 [v] := by
      unfold Blk
      rw [← hwm, setBlock_other _ _ (fun e => h.dm5 e.symm)]
      exact H2.out.b5
    have z5 := y5.cell (j := 0) rfl
    have Y5 := Lib.hid y5
    have HTD : Hid (OffRow wm W0.heap.size 104 2 v (M.length - q) (spv ((keysM M).drop q))) := Lib.hid (H2.out.td.same (fun g hg => by rw [← hwm, setBlock_other _ _ (h.dt g hg).2.2]))
    have HSZ : Hid (wm.heap.size = (((w.alloc (.cells #[.int .i64 (s1 : Int), .bool s2] 104)).alloc (.cells #[.int .i64 (t1 : Int), .bool t2] 104)).alloc (.cells #[.int .i64 0, .bool false] 104)).heap.size) := Lib.hid (by rw [← hwm, setBlock_size])
    clear h hn hwm x1 y1 y5
    unfold sv
    go_enter Tryd.func104, Tryd.ntmps104
    have hb0 : W0.heap.size ≤ wm.heap.size := by have := H2.out.bel.size; have := HSZ.out; omega
    have hb5 : B5 < wm.heap.size := by have := H2.out.b5.lt; have := HSZ.out; omega
    have hv5 : v.ownBlock ≠ some B5 := fun e => (H2.out.dt _ e).2.1 rfl
    go_wp2_with (at_builtin; refine wpList_pushSpot wm _ _ W0.heap.size v (M.length - q) _ (s1, s2) HTD.out hb0 (by omega) rfl rfl rfl rfl ?_; intro v' w3 hown3 hg3 hn3; obtain ⟨g3, o3, c3, rfl, _⟩ := hown3.form; have HO3 := Lib.hid hown3; have HG3 := Lib.hid hg3; have HN3 := Lib.hid hn3; have y5' : Blk w3 B5 142 [v] := (show Blk w3 B5 142 [v] from (show w3.heap[B5]? = _ from (hg3.block B5 hb5 (fun e => hv5 e.symm)).trans Y5.out)); have z5' := y5'.cell (j := 0) rfl; have f5' := y5'.free 0; clear hown3 hg3 hn3 y5')
    first | go_end0 | refine bodyPost_ret (results_none rfl _ _ _) rfl ?_
    obtain ⟨hsr, hsf⟩ := H2.out.put hq HN.out HWM.out.symm HO3.out HG3.out HN3.out
    exact ⟨rfl, _, hsr, (SF.below HB2.out).trans hsf⟩
  · have HJ := Lib.hid hj
    obtain ⟨b1, b2⟩ := by_
    simp only [sv, if_true] at hlk
    clear h hj
    unfold sv
    go_enter Tryd.func104, Tryd.ntmps104
    go_wp2_with fail
    first | go_end0 | refine bodyPost_ret (results_none rfl _ _ _) rfl ?_
    refine ⟨rfl, v, ?_, ?_⟩
    · rw [putM_old (keysM_at HJ.out)]
      exact H.out.below (below_new HB1.out _)
    · exact SF.below (below_new HB1.out _)
end Go.Proofs.YtonmkmghpiagjaaDoor
