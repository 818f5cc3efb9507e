/- The reference's piece: a struct of 258 cells, laid, read and written whole. -/
import Derived.Test.YtcodncddaemhlaaDoorGlob7
import Derived.Deep.MidRow
import Derived.Great.BuildSlice
import Derived.Great.Walk
namespace Go.Proofs.YtcodncddaemhlaaDoor
open Go.RowKit

/-- The cells of a piece. -/
def rpL (an : Bool) (S : Nat → Bool) (self : Int) : List Value := .bool an :: ((List.range 256).map (fun c => Value.bool (S c)) ++ [.int .i64 self])
theorem rpL_len (an : Bool) (S : Nat → Bool) (self : Int) : (rpL an S self).length = 258 := by simp [rpL]
theorem rpL_any (an : Bool) (S : Nat → Bool) (self : Int) : (rpL an S self)[0]? = some (.bool an) := rfl
theorem rpL_at (an : Bool) (S : Nat → Bool) (self : Int) {c : Nat} (hc : c < 256) : (rpL an S self)[1 + c]? = some (.bool (S c)) := by
  unfold rpL
  rw [Nat.add_comm 1 c, List.getElem?_cons_succ, List.getElem?_append_left (by simpa using hc), List.getElem?_map, List.getElem?_range hc]
  rfl
theorem rpL_self (an : Bool) (S : Nat → Bool) (self : Int) : (rpL an S self)[257]? = some (.int .i64 self) := by
  unfold rpL
  rw [List.getElem?_cons_succ, List.getElem?_append_right (by simp)]
  simp
theorem rpL_ext (an : Bool) {S S' : Nat → Bool} (self : Int) (h : ∀ c, c < 256 → S c = S' c) : rpL an S self = rpL an S' self := by
  unfold rpL
  congr 2
  apply List.map_congr_left
  intro c hc
  rw [h c (by simpa using hc)]
theorem rpL_setAny (an v : Bool) (S : Nat → Bool) (self : Int) : (rpL an S self).set 0 (.bool v) = rpL v S self := rfl
def putS (S : Nat → Bool) (c : Nat) (v : Bool) : Nat → Bool := fun d => if d = c then v else S d
theorem rpL_set (an : Bool) (S : Nat → Bool) (self : Int) {c : Nat} (hc : c < 256) (v : Bool) : (rpL an S self).set (1 + c) (.bool v) = rpL an (putS S c v) self := by
  unfold rpL
  rw [Nat.add_comm 1 c, List.set_cons_succ, List.set_append_left _ _ (by simpa using hc)]
  congr 2
  apply List.ext_getElem?
  intro d
  by_cases hd : d = c
  · subst hd
    rw [List.getElem?_set_self (by simpa using hc), List.getElem?_map, List.getElem?_range hc]
    simp [putS]
  · rw [List.getElem?_set_ne (fun e => hd e.symm), List.getElem?_map, List.getElem?_map]
    by_cases h2 : d < 256
    · rw [List.getElem?_range h2]
      simp [putS, hd]
    · rw [List.getElem?_eq_none (by simpa using h2)]
      rfl
theorem rpL_setSelf (an : Bool) (S : Nat → Bool) (self v : Int) : (rpL an S self).set 257 (.int .i64 v) = rpL an S v := by
  unfold rpL
  rw [List.set_cons_succ, List.set_append_right _ _ (by simp)]
  simp
theorem rpL_one (an : Bool) (S : Nat → Bool) (self : Int) : ∀ u ∈ rpL an S self, u.oneCell' = true := by
  intro u hu
  unfold rpL at hu
  rcases List.mem_cons.1 hu with rfl | hu
  · rfl
  · rcases List.mem_append.1 hu with hu | hu
    · obtain ⟨x, _, rfl⟩ := List.mem_map.1 hu
      rfl
    · simp at hu
      subst hu
      rfl
theorem rpInfo : ∃ i, Tryd.prog.info? 110 = some i ∧ i.zero = some (.agg (rpL false noS 0).toArray) ∧ i.size = 258 ∧ i.bytes = 272 := by
  have h : (Tryd.prog.info? 110).map (fun i => (i.zero, i.size, i.bytes)) = some (some (.agg (rpL false noS 0).toArray), 258, 272) := by kernel_rfl
  cases hi : Tryd.prog.info? 110 with
  | none => rw [hi] at h; cases h
  | some i =>
    rw [hi] at h
    simp only [Option.map_some, Option.some.injEq, Prod.mk.injEq] at h
    exact ⟨i, rfl, h.1, h.2.1, h.2.2⟩
theorem rpSize : (Tryd.prog.info? 110).map (·.size) = some 258 := by
  obtain ⟨i, h, _, h2, _⟩ := rpInfo
  rw [h, Option.map_some, h2]
theorem rpStruct : ∃ d, Tryd.prog.underlying 110 = some d ∧ d.isRow = true := ⟨_, Tryd.underlying110, rfl⟩
section
variable {ops : Array Oper} {rest : List Oper} {o : Oper} {a : Act} {Q : Exit → Act → World → Prop}
/-- A piece laid: 'alloc'. -/
theorem wpList_allocR (w : World) (hg : o.guard = none) (ho : o.op = .alloc 110)
    (h : wpList Tryd.prog ops Q rest (a.put o.dst (.pointer (some ⟨w.heap.size, 0, none⟩))) (w.alloc (.cells (rpL false noS 0).toArray 110))) : wpList Tryd.prog ops Q (o :: rest) a w := by
  obtain ⟨i, hi, hz, _, _⟩ := rpInfo
  have hzero : (zeroValue 110).run Tryd.prog w = .ok (.agg (rpL false noS 0).toArray) w := by simp [zeroValue, typeInfo, hi, hz]
  refine Great.wpList_runTo hg o.dst rfl _ _ ?_ h
  unfold execOp
  simp only [ho, Instr.alloc, Sem.run_bind, hzero, Result.andThen_ok, newVar, newRow, Value.cells]
  rfl
/-- The literal 'Piece(Self: -1)'. -/
theorem wpList_buildR (w : World) (hg : o.guard = none) (ho : o.op = .build 110 #[(2, .const (.int .i64 (-1)))])
    (h : wpList Tryd.prog ops Q rest (a.put o.dst (.agg (rpL false noS (-1)).toArray)) w) : wpList Tryd.prog ops Q (o :: rest) a w :=
  wpList_buildTo hg _ _ ho o.dst rfl _ (by kernel_rfl) h
/-- A whole piece read. -/
theorem wpList_loadR (w : World) (hg : o.guard = none) (x : Operand) (ho : o.op = .load 110 x) (b off : Nat) (an : Bool) (S : Nat → Bool) (self : Int)
    (hx : a.eval x = .pointer (some ⟨b, off, none⟩)) (hc : w.rangeAt b off (rpL an S self))
    (h : wpList Tryd.prog ops Q rest (a.put o.dst (.agg (rpL an S self).toArray)) w) : wpList Tryd.prog ops Q (o :: rest) a w := by
  obtain ⟨d, hd, hr⟩ := rpStruct
  exact wpList_load_mid hg _ x ho b off hx _ d hc hd hr (by rw [rpL_len]; exact rpSize) h
theorem blk_range {w : World} {b : Nat} {t : TypeId} {vs : List Value} (h : Blk w b t vs) : w.rangeAt b 0 vs := fun j v hj => by rw [Nat.zero_add]; exact h.cell hj
theorem blk_setCells (b : Nat) (t : TypeId) : ∀ (r : List Value) (o : Nat) (vs : List Value) (w : World), Blk w b t vs → o + r.length = vs.length → Blk (w.setCells b o r) b t (vs.take o ++ r)
  | [], o, vs, w, h, hl => by
    rw [List.append_nil, List.take_of_length_le (by simp at hl; omega)]
    exact h
  | v :: r, o, vs, w, h, hl => by
    have h2 := blk_setCells b t r (o + 1) (vs.set o v) (w.setCell ⟨b, o, none⟩ v) (h.same o v) (by simp at hl ⊢; omega)
    have e : (vs.set o v).take (o + 1) ++ r = vs.take o ++ v :: r := by
      have ho : o < vs.length := by simp at hl; omega
      rw [List.take_add_one, List.take_set_of_le (Nat.le_refl _), List.getElem?_set_self ho]
      simp
    rw [e] at h2
    exact h2
theorem below_setCells {B b : Nat} (hB : B ≤ b) : ∀ (r : List Value) (o : Nat) (w w' : World), Below B w w' → Below B w (w'.setCells b o r)
  | [], _, _, _, h => h
  | v :: r, o, w, _, h => below_setCells hB r (o + 1) w _ (h.setCell (p := ⟨b, o, none⟩) hB v)
theorem blk_there {w : World} {b : Nat} {t : TypeId} {vs : List Value} (h : Blk w b t vs) (n : Nat) (hn : n = vs.length) : w.there b 0 n := fun j hj => by
  rw [Nat.zero_add]
  exact ⟨by rw [h.cell (List.getElem?_eq_getElem (by omega : j < vs.length))]; rfl, h.free j⟩
/-- A whole piece written into its box. -/
theorem wpList_storeR (w : World) (hg : o.guard = none) (x y : Operand) (ho : o.op = .store 110 x y) (b : Nat) (an an' : Bool) (S S' : Nat → Bool) (self self' : Int)
    (hx : a.eval x = .pointer (some ⟨b, 0, none⟩)) (hy : a.eval y = .agg (rpL an' S' self').toArray) (hb : Blk w b 110 (rpL an S self))
    (h : ∀ w', Blk w' b 110 (rpL an' S' self') → (∀ B, B ≤ b → Below B w w') → wpList Tryd.prog ops Q rest (a.put o.dst undef) w') : wpList Tryd.prog ops Q (o :: rest) a w := by
  refine wpList_store_mid hg _ x y ho b 0 _ hx hy (blk_there hb _ (by simp [rpL_len])) (by simpa [rpL_len] using rpSize) (all_oneCell_toArray (rpL_one _ _ _)) ?_
  refine h _ ?_ ?_
  · have := blk_setCells b 110 (rpL an' S' self') 0 (rpL an S self) w hb (by simp [rpL_len])
    simpa using this
  · intro B hB
    exact below_setCells hB _ _ _ _ (Below.refl _ _)
theorem foldl_put (off : Nat) : ∀ (l : List Value) (k : Nat) (cs : Array Value), ((l.zipIdx k).foldl (fun cs x => cs.setIfInBounds (off + x.2) x.1) cs).size = cs.size ∧ ∀ m, ((l.zipIdx k).foldl (fun cs x => cs.setIfInBounds (off + x.2) x.1) cs)[m]? = if off + k ≤ m ∧ m < off + k + l.length ∧ m < cs.size then l[m - off - k]? else cs[m]?
  | [], k, cs => by
    refine ⟨rfl, fun m => ?_⟩
    rw [if_neg (by simp; omega)]
    rfl
  | v :: l, k, cs => by
    obtain ⟨h1, h2⟩ := foldl_put off l (k + 1) (cs.setIfInBounds (off + k) v)
    rw [List.zipIdx_cons, List.foldl_cons]
    refine ⟨by rw [h1]; simp, fun m => ?_⟩
    rw [h2 m]
    simp only [Array.size_setIfInBounds, List.length_cons]
    by_cases hm : m = off + k
    · subst hm
      rw [if_neg (by omega)]
      by_cases hs : off + k < cs.size
      · rw [if_pos ⟨by omega, by omega, hs⟩, Array.getElem?_setIfInBounds_self_of_lt hs]
        simp
      · rw [if_neg (by omega), Array.setIfInBounds_eq_of_size_le (by omega)]
    · rw [Array.getElem?_setIfInBounds_ne (fun e => hm e.symm)]
      by_cases hc : off + (k + 1) ≤ m ∧ m < off + (k + 1) + l.length ∧ m < cs.size
      · rw [if_pos hc, if_pos ⟨by omega, by omega, hc.2.2⟩]
        have : m - off - k = (m - off - (k + 1)) + 1 := by omega
        rw [this, List.getElem?_cons_succ]
      · rw [if_neg hc, if_neg (by omega)]
theorem fill_one (cells : Array Value) (v : Value) (n : Nat) (h1 : v.cells.size = n) (h2 : cells.size = n) : Instr.fill (fun i => some (i * n, n)) cells [(0, v)] = some v.cells := by
  unfold Instr.fill
  simp only [Nat.zero_mul, Nat.zero_add]
  rw [if_neg (by rw [h1, h2]; simp)]
  unfold Instr.fill
  congr 1
  have e : v.cells.zipIdx.foldl (fun cs (x : Value × Nat) => cs.setIfInBounds x.2 x.1) cells = (v.cells.toList.zipIdx 0).foldl (fun cs x => cs.setIfInBounds (0 + x.2) x.1) cells := by
    rw [← Array.foldl_toList, Array.toList_zipIdx]
    simp only [Nat.zero_add]
  obtain ⟨a1, a2⟩ := foldl_put 0 v.cells.toList 0 cells
  refine Eq.trans e ?_
  apply Array.ext_getElem?
  intro m
  rw [a2 m]
  by_cases hm : m < n
  · rw [if_pos ⟨by omega, by simp; omega, by omega⟩]
    simp
  · rw [if_neg (by simp; omega), Array.getElem?_eq_none (by omega), Array.getElem?_eq_none (by omega)]
/-- The slice that an append hands over: one piece. -/
theorem wpList_sliceR (w : World) (hg : o.guard = none) (x : Operand) (ho : o.op = .buildSlice 71 1 #[(0, x)]) (an : Bool) (S : Nat → Bool) (self : Int)
    (hx : a.eval x = .agg (rpL an S self).toArray)
    (h : wpList Tryd.prog ops Q rest (a.put o.dst (.slice (some ⟨w.heap.size, 0, none⟩) 1 1)) (w.alloc (.cells (rpL an S self).toArray 110))) : wpList Tryd.prog ops Q (o :: rest) a w := by
  obtain ⟨i, hi, hz, hs, _⟩ := rpInfo
  refine wpList_buildSlice hg _ 110 1 _ ho _ i _ Tryd.underlying71 hi hz (by rw [hs]; decide) (by rw [hs]; decide) ?_ h
  rw [hs]
  have e : ((#[(0, x)] : Array (Nat × Operand)).map fun (i, x) => (i, a.eval x)).toList = [(0, .agg (rpL an S self).toArray)] := by simp [hx]
  rw [e]
  exact fill_one _ _ 258 (by simp [Value.cells, rpL_len]) (by simp)
def rps (M : List GQ) : List Value := M.flatMap fun g => rpL g.p.any g.p.set g.self
theorem rps_snoc (M : List GQ) (g : GQ) : rps (M ++ [g]) = rps M ++ rpL g.p.any g.p.set g.self := by unfold rps; rw [List.flatMap_append]; simp
/-- 'append(out, x)', out the call's own. -/
theorem wpList_pushR (wr : World) (s x : Operand) (B : Nat) (A : Option Addr) (n c : Nat) (M : List GQ) (g : GQ)
    (hown : wr.ownsRow B 110 258 (.slice A n c) n (rps M)) (hB : B ≤ wr.heap.size) (hn : (n + 1) * 272 ≤ 140737488355328)
    (hgd : o.guard = none) (ho : o.op = .call { callee := .builtin .append, args := #[s, x], argTypes := #[71, 71] })
    (hs : a.eval s = .slice A n c) (hx : a.eval x = .slice (some ⟨wr.heap.size, 0, none⟩) 1 1)
    (h : ∀ g' c' w', w'.ownsRow B 110 258 (.slice (some ⟨g', 0, none⟩) (n + 1) c') (n + 1) (rps (M ++ [g])) → Below B wr w' → wpList Tryd.prog ops Q rest (a.put o.dst (.slice (some ⟨g', 0, none⟩) (n + 1) c')) w') :
    wpList Tryd.prog ops Q (o :: rest) a (wr.alloc (.cells (rpL g.p.any g.p.set g.self).toArray 110)) := by
  obtain ⟨i, hi, hz, h1, hb⟩ := rpInfo
  have ht : Tryd.prog.underlying 71 = some (.slice 110) := Tryd.underlying71
  have hB' : B ≤ (wr.alloc (.cells (rpL g.p.any g.p.set g.self).toArray 110)).heap.size := by simp; omega
  refine wpList_append_own_at _ hgd s x 71 ho B 110 i _ 258 272 ht hi hz h1 hb (by simp [Value.cells, rpL_len]) (by decide) (.slice A n c) n (rps M) hs (hown.alloc _) ⟨wr.heap.size, 0, none⟩ 1 1 (rpL g.p.any g.p.set g.self) hx (by rw [rpL_len]) ?_ (rpL_one _ _ _) (by unfold maxLen; omega) hn hB' ?_
  · intro j u hj
    rw [Addr.add_lit, World.cell?_alloc_at _ _ _ _ rfl, Nat.zero_add]
    simpa using hj
  · intro v' w' hown' hg hnil hor
    have hne : v' ≠ .slice none 0 0 := fun e => by have := (hnil.1 e).2; omega
    rcases hown'.2 with ⟨h', _⟩ | ⟨g', cap, cur, h', _⟩
    · exact absurd h' hne
    · subst h'
      refine h g' cap w' (by rw [rps_snoc]; exact hown') ?_
      exact ((Below.refl B wr).alloc hB _).grown hg hB' (fun k hk => (hown.lt k hk).1)
end
end Go.Proofs.YtcodncddaemhlaaDoor
