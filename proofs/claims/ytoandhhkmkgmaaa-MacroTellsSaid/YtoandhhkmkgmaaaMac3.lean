/- Contracts: the table's flat, with its two callbacks. Texts shorter than 2^32 - 15; every name that is called for stands in the table. -/
import Derived.Test.YtoandhhkmkgmaaaMacPlain
import Derived.Test.YtoandhhkmkgmaaaMacRefP
import Derived.Test.YtoandhhkmkgmaaaSMap
import Derived.Test.YtoandhhkmkgmaaaLnBld
import Derived.Test.YtoandhhkmkgmaaaShelfBld
import Derived.Test.YtoandhhkmkgmaaaShelfLen
import Derived.Deep.RegionWith
namespace Go.Proofs.Ytoandhhkmkgmaaa
open Go.RowKit

/-- An entry of the table. -/
structure EntM where
  blk : Nat
  nm : List UInt8
  val : List UInt8
  A : Option Addr
  c : Nat
  us : List (List UInt8)
  st : Nat
  flat : List UInt8
  large : Bool
def entC (e : EntM) : List Value := [sv e.val, .slice e.A e.us.length e.c, .int .i64 e.st, sv e.flat, .bool e.large]
def tabS (T : List EntM) : SMapT := T.map fun e => (e.nm, .pointer (some ⟨e.blk, 0, none⟩))
def namesT (T : List EntM) : List (List UInt8) := T.map (·.nm)
theorem keys_tabS (T : List EntM) : keysS (tabS T) = namesT T := by unfold keysS tabS namesT; rw [List.map_map]; rfl
/-- The table as it lies. -/
structure TabAt (w : World) (bm : Nat) (T : List EntM) : Prop where
  mp : MapS w bm (tabS T)
  nd : (namesT T).Nodup
  k40 : ∀ n ∈ namesT T, n.length ≤ 40
  blk : ∀ e ∈ T, Blk w e.blk 62 (entC e)
  us : ∀ e ∈ T, Rd w e.A (e.us.map sv)
  bd : (T.map (·.blk)).Nodup
  far : ∀ e ∈ T, ∀ e' ∈ T, ∀ g o f, e.A = some ⟨g, o, f⟩ → 0 < e.us.length → g ≠ e'.blk
  far2 : ∀ e ∈ T, e.blk ≠ bm
  short : ∀ e ∈ T, e.flat.length ≤ 2000
theorem TabAt.below {w w' : World} {bm : Nat} {T : List EntM} (h : TabAt w bm T) (hb : Below w.heap.size w w') : TabAt w' bm T :=
  ⟨h.mp.below hb h.mp.lt, h.nd, h.k40, fun e he => (h.blk e he).below hb (h.blk e he).lt, fun e he => (h.us e he).below hb, h.bd, h.far, h.far2, h.short⟩
theorem strKindM : Try.prog.underlying 9 = some .string := by kernel_rfl
theorem mapKindM : Try.prog.underlying 58 = some (.map 9 63) := by kernel_rfl
theorem ptrZeroM (w : World) : (zeroValue 63).run Try.prog w = .ok (.pointer none) w := Try.zeroValue63 w
theorem keysOkT {T : List EntM} (h : ∀ n ∈ namesT T, n.length ≤ 40) : KeysOk (tabS T) := fun s hs => by
  rw [keys_tabS] at hs
  have := h s hs
  unfold maxLen
  omega
theorem tab_look {w : World} {bm : Nat} {T : List EntM} (hm : MapS w bm (tabS T)) (hk : ∀ n ∈ namesT T, n.length ≤ 40) (n : List UInt8) (hn : n.length ≤ maxLen) :
    (n ∉ namesT T ∧ (Instr.lookup 58 (.map (some bm)) (sv n) false).run Try.prog w = .ok (.pointer none) w) ∨
    ∃ (j : Nat) (e : EntM), T[j]? = some e ∧ e.nm = n ∧ (Instr.lookup 58 (.map (some bm)) (sv n) false).run Try.prog w = .ok (.pointer (some ⟨e.blk, 0, none⟩)) w := by
  rcases run_lookS strKindM mapKindM (ptrZeroM w) hm (keysOkT hk) n hn false with ⟨h1, h2⟩ | ⟨j, v, h1, h2⟩
  · rw [keys_tabS] at h1
    exact .inl ⟨h1, h2⟩
  · unfold tabS at h1
    rw [List.getElem?_map] at h1
    obtain ⟨x, hx, he⟩ := Option.map_eq_some_iff.1 h1
    injection he with h3 h4
    refine .inr ⟨j, x, hx, h3, ?_⟩
    rw [← h4] at h2
    exact h2
theorem once_T {T : List EntM} (hn : (namesT T).Nodup) {e e' : EntM} (he : e ∈ T) (he' : e' ∈ T) (h : e.nm = e'.nm) : e = e' := by
  obtain ⟨i, hi⟩ := List.mem_iff_getElem?.1 he
  obtain ⟨j, hj⟩ := List.mem_iff_getElem?.1 he'
  have e1 : (namesT T)[i]? = some e.nm := by unfold namesT; rw [List.getElem?_map, hi]; rfl
  have e2 : (namesT T)[j]? = some e.nm := by unfold namesT; rw [List.getElem?_map, hj, h]; rfl
  have := (List.getElem?_inj (List.getElem?_eq_some_iff.1 e1).1 hn).1 (e1.trans e2.symm)
  rw [this, hj] at hi
  injection hi with hi
  exact hi.symm
/-- What a name is flat, by the table. -/
def lookT (T : List EntM) (n : List UInt8) : Bool × List UInt8 := match T.find? (fun e => e.nm == n) with
  | some e => (e.large, e.flat)
  | none => (false, [])
theorem lookT_of {T : List EntM} (hn : (namesT T).Nodup) {e : EntM} (he : e ∈ T) : lookT T e.nm = (e.large, e.flat) := by
  unfold lookT
  have : T.find? (fun e' => e'.nm == e.nm) = some e := by
    cases hf : T.find? (fun e' => e'.nm == e.nm) with
    | none => rw [List.find?_eq_none] at hf; exact absurd (hf e he) (by simp)
    | some x =>
      have h1 := List.find?_some hf
      have h2 := List.mem_of_find?_eq_some hf
      obtain ⟨i, hi⟩ := List.mem_iff_getElem?.1 he
      obtain ⟨j, hj⟩ := List.mem_iff_getElem?.1 h2
      have e1 : (namesT T)[i]? = some e.nm := by unfold namesT; rw [List.getElem?_map, hi]; rfl
      have e2 : (namesT T)[j]? = some e.nm := by unfold namesT; rw [List.getElem?_map, hj]; simpa using h1
      have := (List.getElem?_inj (List.getElem?_eq_some_iff.1 e1).1 hn).1 (e1.trans e2.symm)
      subst this
      rw [hi] at hj
      exact hj.symm
  rw [this]
theorem lookT_short {T : List EntM} (h : ∀ e ∈ T, e.flat.length ≤ 2000) (n : List UInt8) : (lookT T n).2.length ≤ 2000 := by
  unfold lookT
  split
  · exact h _ (List.mem_of_find?_eq_some (by assumption))
  · simp

/-- The boxes of flat: the table, the builder, 'large', put. -/
structure FlatAt (w0 : World) (bm : Nat) (st : Bool × List UInt8) (W : World) : Prop where
  bld : Lib.IsBuilder 100 5 w0.heap.size (w0.heap.size + 1) (Lib.byteCells st.2) W
  tb : Blk W w0.heap.size 58 [.map (some bm)]
  lg : Blk W (w0.heap.size + 2) 4 [.bool st.1]
  pt : Blk W (w0.heap.size + 3) 66 [.func (.func 56) #[] #[.pointer (some ⟨w0.heap.size + 2, 0, none⟩), .pointer (some ⟨w0.heap.size + 1, 0, none⟩)]]
  below : Below w0.heap.size w0 W
  short : st.2.length ≤ 2000
theorem FlatAt.drewN {w0 : World} {bm : Nat} {st : Bool × List UInt8} {W : World} (h : FlatAt w0 bm st W) (n : Nat) : FlatAt w0 bm st (W.drewN n) := ⟨h.bld, h.tb, h.lg, h.pt, below_drewN h.below n, h.short⟩
theorem bldM_other {B b k : Nat} {bs : List Value} {W : World} (h : Lib.IsBuilder 100 5 B b bs W) (hk : k ≠ b) {t : TypeId} {vs : List Value} (hb : Blk W k t vs) (ht : t ≠ 5) (j : Nat) (u : Value) : Lib.IsBuilder 100 5 B b bs (W.setCell ⟨k, j, none⟩ u) := by
  have key : ∀ q, Lib.BuilderAt 100 5 B b q bs W → Lib.BuilderAt 100 5 B b q bs (W.setCell ⟨k, j, none⟩ u) := fun q hq => by
    obtain ⟨hB, v, hv, hown, hne⟩ := hq
    refine ⟨hB, v, ?_, ?_, hne⟩
    · rw [Below.heap_setCell _ _ _ _ (fun e => hk e.symm)]; exact hv
    · refine hown.kept (row := some k) ⟨rfl, rfl, rfl, by simp [World.setCell], fun i _ hi => Below.heap_setCell _ _ _ _ (fun e => hi (by simp [e]))⟩ (.inr ?_)
      exact Lib.ownBlock_ne hown hb ht
  exact h.imp (key _) (key _)
theorem FlatAt.setL {w0 : World} {bm : Nat} {st : Bool × List UInt8} {W : World} (h : FlatAt w0 bm st W) (b : Bool) : FlatAt w0 bm (b, st.2) (W.setCell ⟨w0.heap.size + 2, 0, none⟩ (.bool b)) :=
  ⟨bldM_other h.bld (by omega) h.lg (by decide) 0 _, blk_far h.tb (by omega) _, h.lg.same 0 _, blk_far h.pt (by omega) _, h.below.setCell (p := ⟨w0.heap.size + 2, 0, none⟩) (by show w0.heap.size ≤ w0.heap.size + 2; omega) _, h.short⟩
theorem FlatAt.wrote {w0 : World} {bm : Nat} {st : Bool × List UInt8} {W W' : World} (h : FlatAt w0 bm st W) {x : List UInt8} (hs : (st.2 ++ x).length ≤ 2000)
    (hb : Lib.BuilderAt 100 5 w0.heap.size (w0.heap.size + 1) (.pointer (some ⟨w0.heap.size + 1, 0, none⟩)) (Lib.byteCells st.2 ++ Lib.strCells ⟨x.toArray⟩) W')
    (hw : Below w0.heap.size W W') (hk : Lib.OthersKept 5 (some (w0.heap.size + 1)) W W') : FlatAt w0 bm (st.1, st.2 ++ x) W' := by
  have key : ∀ {k : Nat} {t : TypeId} {vs : List Value}, k ≠ w0.heap.size + 1 → t ≠ 5 → Blk W k t vs → Blk W' k t vs := fun hne ht hb => hk _ _ hb (by simpa using hne) (fun c fz e => by injection e with _ e _; exact ht e)
  refine ⟨.inr ?_, key (by omega) (by decide) h.tb, key (by omega) (by decide) h.lg, key (by omega) (by decide) h.pt, h.below.trans hw, hs⟩
  have e : Lib.byteCells st.2 ++ Lib.strCells (⟨x.toArray⟩ : ByteArray) = Lib.byteCells (st.2 ++ x) := by
    show Lib.byteCells st.2 ++ Lib.byteCells _ = _
    rw [Lib.byteCells_append]
  rw [← e]
  exact hb

set_option maxHeartbeats 1000000 in
theorem mPut_any (w0 : World) (bm : Nat) (st : Bool × List UInt8) (x : List UInt8) (W : World) (h : FlatAt w0 bm st W) (hx : x.length ≤ 4294967281) :
    Calls Try.prog 56 #[sv x, .pointer (some ⟨w0.heap.size + 2, 0, none⟩), .pointer (some ⟨w0.heap.size + 1, 0, none⟩)] W fun e W' => e = .returned (.tuple #[]) ∧ FlatAt w0 bm (putM st x) W' := by
  have H := Lib.hid h
  have y := h.lg.cell (j := 0) rfl
  have f := h.lg.free 0
  have HP : Hid (putM st x = if st.1 = true ∨ 2000 < st.2.length + x.length then (true, st.2) else (false, st.2 ++ x)) := Lib.hid rfl
  obtain ⟨lg, out⟩ := st
  simp only [] at HP y f
  have HS := Lib.hid h.short
  have HX := Lib.hid hx
  have HLEN := Lib.hid (Try.Builder_Len w0.heap.size (w0.heap.size + 1) (Lib.byteCells out) W h.bld)
  rw [Lib.byteCells_length] at HLEN
  have hsx : (⟨x.toArray⟩ : ByteArray).size = x.length := rfl
  have HSX := Lib.hid hsx
  obtain ⟨bx, hbx⟩ : ∃ bx, (⟨x.toArray⟩ : ByteArray) = bx := ⟨_, rfl⟩
  have HBX := Lib.hid hbx
  have e0 : sv x = .string bx := by unfold sv; rw [hbx]
  rw [e0]
  rw [hbx] at HSX
  clear h hx hsx hbx e0
  cases lg with
  | true =>
    rw [if_pos (.inl rfl)] at HP
    go_enter Try.func56, Try.ntmps56
    go_wp2_with fail
    go_end0
    rw [HP.out]
    exact ⟨rfl, H.out.setL true⟩
  | false =>
    by_cases hl : 2000 < out.length + x.length
    · rw [if_pos (.inr hl)] at HP
      have hb : (bx.size : Int) > 2000 - (out.length : Int) := by have := HSX.out; omega
      have hb2 : decide ((2000 : Int) - (out.length : Int) < (bx.size : Int)) = true := by simpa using hb
      have hol : out.length ≤ 2000 := HS.out
      clear hl
      go_enter Try.func56, Try.ntmps56
      go_wp2_with fail
      refine HLEN.out.mono ?_
      rintro e w1 ⟨rfl, rfl⟩
      go_wp2_with fail
      go_end0
      rw [HP.out]
      exact ⟨rfl, H.out.setL true⟩
    · rw [if_neg (by simpa using hl)] at HP
      have hb : ¬ (bx.size : Int) > 2000 - (out.length : Int) := by have := HSX.out; omega
      have hb2 : decide ((2000 : Int) - (out.length : Int) < (bx.size : Int)) = false := by simpa using hb
      have H1 := Lib.hid (H.out.setL false)
      have HLT : Hid ((out ++ x).length ≤ 2000) := Lib.hid (by rw [List.length_append]; omega)
      have HB1 := Lib.hid (bld_str w0.heap.size (w0.heap.size + 1) (Lib.byteCells out) bx _ H1.out.bld (by rw [Lib.byteCells_length]; have := HLT.out; rw [List.length_append] at this; have := HSX.out; omega) H1.out.below.size)
      have hol : out.length ≤ 2000 := HS.out
      clear hl
      go_enter Try.func56, Try.ntmps56
      go_wp2_with fail
      refine HLEN.out.mono ?_
      rintro e w1 ⟨rfl, rfl⟩
      go_wp2_with fail
      refine HB1.out.mono ?_
      rintro e w1 ⟨rfl, hb1, hw1, hk1⟩
      rw [← HBX.out] at hb1
      have H2 := Lib.hid (H1.out.wrote HLT.out hb1 hw1 hk1)
      clear hb1 hw1 hk1
      go_wp2_with fail
      go_end0
      rw [HP.out]
      exact ⟨rfl, H2.out⟩
set_option maxHeartbeats 1000000 in
theorem mName_any (w0 : World) (bm : Nat) (T : List EntM) (st : Bool × List UInt8) (n : List UInt8) (W : World) (hT : TabAt w0 bm T) (h : FlatAt w0 bm st W) (hn : n ∈ namesT T) :
    Calls Try.prog 59 #[sv n, .pointer (some ⟨w0.heap.size + 2, 0, none⟩), .pointer (some ⟨w0.heap.size, 0, none⟩), .pointer (some ⟨w0.heap.size + 3, 0, none⟩)] W fun e W' => e = .returned (.tuple #[]) ∧ FlatAt w0 bm (pieceM (lookT T) st (true, n)) W' := by
  have HT := Lib.hid hT
  have H := Lib.hid h
  have hn40 := hT.k40 n hn
  obtain ⟨e, he, rfl⟩ := List.mem_map.1 hn
  have HE : Hid (pieceM (lookT T) st (true, e.nm) = putM (st.1 || e.large, st.2) e.flat) := Lib.hid (by rw [pieceM_eq]; unfold wideM textM; simp [lookT_of hT.nd he])
  have hfind : ∀ V, TabAt V bm T → (Instr.lookup 58 (.map (some bm)) (sv e.nm) false).run Try.prog V = .ok (.pointer (some ⟨e.blk, 0, none⟩)) V := fun V hV => by
    rcases tab_look hV.mp hV.k40 e.nm (by unfold maxLen; omega) with ⟨h1, _⟩ | ⟨j, e', h1, h2, h3⟩
    · exact absurd hn h1
    · have := once_T hV.nd he (List.mem_of_getElem? h1) h2.symm
      rw [← this] at h3
      exact h3
  have HF := Lib.hid hfind
  have hTW := hT.below h.below
  have lk := hfind W hTW
  have H1 := Lib.hid (fun b => h.setL b)
  have HTL : Hid (∀ b, TabAt (W.setCell ⟨w0.heap.size + 2, 0, none⟩ (.bool b)) bm T) := Lib.hid (fun b => hT.below (h.setL b).below)
  have lk1 := fun b => hfind _ (HTL.out b)
  have lk2 := fun b => hfind (W.setCell ⟨w0.heap.size + 2, 0, none⟩ (.bool b)).drew ((HTL.out b).below (below_of_drewN _ 1))
  have yl := h.lg.cell (j := 0) rfl
  have fl := h.lg.free 0
  have yt := h.tb.cell (j := 0) rfl
  have yp := h.pt.cell (j := 0) rfl
  have ye := (hTW.blk e he).cell (j := 4) rfl
  have yt1 := fun b => (h.setL b).tb.cell (j := 0) rfl
  have yp1 := fun b => (h.setL b).pt.cell (j := 0) rfl
  have ye1 := fun b => ((HTL.out b).blk e he).cell (j := 3) rfl
  have HS := Lib.hid (hT.short e he)
  have CC := Lib.hid (fun b => mPut_any w0 bm (b, st.2) e.flat _ ((h.setL b).drewN 1) (by have := HS.out; omega))
  obtain ⟨bx, hbx⟩ : ∃ bx, sv e.nm = .string bx := ⟨_, rfl⟩
  obtain ⟨bf, hbf⟩ : ∃ bf, sv e.flat = .string bf := ⟨_, rfl⟩
  rw [hbx] at lk lk1 lk2 ⊢
  rw [hbf] at ye1 CC
  obtain ⟨lg, out⟩ := st
  simp only [] at HE yl fl yp ye yt1 yp1 ye1 CC lk1 lk2 H1
  clear hT h hn hfind hTW hbx hbf hn40
  cases lg with
  | true =>
    go_enter Try.func59, Try.ntmps59
    go_wp2_with fail
    go_region_with ((go_at_call 56; refine (CC.out true).mono ?_; rintro e w1 ⟨rfl, h1⟩))
    all_goals go_end0
    all_goals rw [HE.out]
    all_goals exact ⟨rfl, by assumption⟩
  | false =>
    go_enter Try.func59, Try.ntmps59
    go_wp2_with fail
    go_region_with ((go_at_call 56; refine (CC.out _).mono ?_; rintro e w1 ⟨rfl, h1⟩))
    all_goals go_end0
    all_goals rw [HE.out]
    all_goals exact ⟨rfl, by assumption⟩
end Go.Proofs.Ytoandhhkmkgmaaa
/- Contract: the table's flat. Texts shorter than 2^32 - 15; every name that is called for stands in the table. -/
namespace Go.Proofs.Ytoandhhkmkgmaaa
open Go.RowKit

@[go_sem] theorem run_store_funcM {P : Program} {w : World} {a : Addr} {m : Mode} (g : Fn) (ts xs : Array Value) : (store a (.func g ts xs) m).run P w = stored P w a (.func g ts xs) m := run_store P w a _ m rfl
theorem fold_short (fl : List UInt8 → Bool × List UInt8) : ∀ (ls : List PieceM) (st : Bool × List UInt8), st.2.length ≤ 2000 → (ls.foldl (pieceM fl) st).2.length ≤ 2000
  | [], st, h => h
  | p :: l, st, h => by
    rw [List.foldl_cons]
    refine fold_short fl l _ ?_
    rw [pieceM_eq]
    unfold putM
    split
    · exact h
    · rename_i hc
      rw [List.length_append]
      simp only [not_or] at hc
      have := hc.2
      simp only [] at this ⊢
      omega
theorem flat_keep (w0 : World) (bm : Nat) (T : List EntM) (s : List UInt8) (m : Int) (hT : TabAt w0 bm T) (hm : w0.cell? ⟨0, 0, none⟩ = some (.int .i64 m)) (h0 : 0 < w0.heap.size) (hl : s.length < 4294967281) (hu : ∀ u ∈ usesOf s, u ∈ namesT T) :
    KeepM Try.prog 56 59 #[.pointer (some ⟨w0.heap.size + 2, 0, none⟩), .pointer (some ⟨w0.heap.size + 1, 0, none⟩)] #[.pointer (some ⟨w0.heap.size + 2, 0, none⟩), .pointer (some ⟨w0.heap.size, 0, none⟩), .pointer (some ⟨w0.heap.size + 3, 0, none⟩)] (s.length + 1) (([] : List PieceM).length + 2 * s.length + 1) ([] ++ (parseM s).1) (fun ls W => FlatAt w0 bm (ls.foldl (pieceM (lookT T)) (false, [])) W) where
  cell := fun ls W h => ⟨m, (h.below.cell (p := ⟨0, 0, none⟩) h0).trans hm⟩
  draws := fun ls W n h => h.drewN n
  text := fun ls x W hx _ hI => (mPut_any w0 bm _ x W hI (by omega)).mono fun e W' h => ⟨h.1, by rw [List.foldl_append]; exact h.2⟩
  name := fun ls x W _ _ hf hI => (mName_any w0 bm T _ x W hT hI (hu x (by
    obtain ⟨r, hr⟩ := hf
    unfold usesOf
    rw [mem_uses]
    rw [List.nil_append] at hr
    rw [← hr]
    simp))).mono fun e W' h => ⟨h.1, by rw [List.foldl_append]; exact h.2⟩
def putF (w : World) : Value := .func (.func 56) #[] #[.pointer (some ⟨w.heap.size + 1 + 1, 0, none⟩), .pointer (some ⟨w.heap.size + 1, 0, none⟩)]
/-- The world in which flat calls parse. -/
def flatW (w : World) (bm : Nat) : World := (((w.alloc (.cells #[.map (some bm)] 58)).alloc (.cells #[.pointer none, .slice none 0 0] 100)).alloc (.cells #[.bool false] 4)).alloc (.cells #[putF w] 66)
theorem flatW_blk (w : World) (bm : Nat) : Blk (flatW w bm) (w.heap.size + 1 + 1 + 1) 66 [putF w] := by
  have h := Blk.new (((w.alloc (.cells #[.map (some bm)] 58)).alloc (.cells #[.pointer none, .slice none 0 0] 100)).alloc (.cells #[.bool false] 4)) #[putF w] 66
  unfold flatW
  simpa using h
theorem flat_start (w : World) (bm : Nat) : FlatAt w bm (false, []) (flatW w bm) := by
  have hA := Blk.new w #[.map (some bm)] 58
  have hB : Lib.IsBuilder 100 5 (w.heap.size + 1) (w.heap.size + 1) [] ((w.alloc (.cells #[.map (some bm)] 58)).alloc (.cells #[.pointer none, .slice none 0 0] 100)) := by
    have h := Lib.fresh_isBuilder 100 5 (w.alloc (.cells #[.map (some bm)] 58))
    simpa using h
  have hC := Blk.new ((w.alloc (.cells #[.map (some bm)] 58)).alloc (.cells #[.pointer none, .slice none 0 0] 100)) #[.bool false] 4
  have b1 : Below (w.heap.size + 1) (w.alloc (.cells #[.map (some bm)] 58)) (flatW w bm) := by
    unfold flatW
    exact (((Below.refl _ _).alloc (by simp) _).alloc (by simp) _).alloc (by simp <;> omega) _
  have b2 : Below (w.heap.size + 1 + 1) ((w.alloc (.cells #[.map (some bm)] 58)).alloc (.cells #[.pointer none, .slice none 0 0] 100)) (flatW w bm) := by
    unfold flatW
    exact ((Below.refl _ _).alloc (by simp) _).alloc (by simp) _
  have b3 : Below (w.heap.size + 1 + 1 + 1) (((w.alloc (.cells #[.map (some bm)] 58)).alloc (.cells #[.pointer none, .slice none 0 0] 100)).alloc (.cells #[.bool false] 4)) (flatW w bm) := by
    unfold flatW
    exact (Below.refl _ _).alloc (by simp) _
  have b0 : Below w.heap.size w (flatW w bm) := by
    unfold flatW
    exact ((((Below.refl _ _).alloc (Nat.le_refl _) _).alloc (by simp) _).alloc (by simp [Nat.add_assoc]) _).alloc (by simp [Nat.add_assoc]) _
  have hp := flatW_blk w bm
  have hB2 : Lib.IsBuilder 100 5 w.heap.size (w.heap.size + 1) [] (flatW w bm) := by
    have key : ∀ q, Lib.BuilderAt 100 5 (w.heap.size + 1) (w.heap.size + 1) q [] ((w.alloc (.cells #[.map (some bm)] 58)).alloc (.cells #[.pointer none, .slice none 0 0] 100)) → Lib.BuilderAt 100 5 w.heap.size (w.heap.size + 1) q [] (flatW w bm) := fun q hq => by
      obtain ⟨_, v, hv, hown, hne⟩ := hq
      refine ⟨by omega, v, ?_, ?_, hne⟩
      · rw [b2.block _ (by omega)]; exact hv
      · rcases hown.2 with h | ⟨g, cap, cur, h1, h2, h3, h4⟩
        · exact ⟨hown.1, .inl h⟩
        · have hlt := lt_of_blockG h3
          exact ⟨hown.1, .inr ⟨g, cap, cur, h1, by omega, by rw [b2.block _ (by simp at hlt; omega)]; exact h3, h4⟩⟩
    exact hB.imp (key _) (key _)
  exact ⟨hB2, hA.below b1 (by omega), by simpa using hC.below (B := w.heap.size + 1 + 1 + 1) (by simpa using b3) (by simp), hp, b0, by simp⟩
set_option maxHeartbeats 1000000 in
theorem mFlat_any (bm : Nat) (T : List EntM) (s : List UInt8) (w : World) (m : Int) (hT : TabAt w bm T) (hm : w.cell? ⟨0, 0, none⟩ = some (.int .i64 m)) (h0 : 0 < w.heap.size) (hl : s.length < 4294967281) (hu : ∀ u ∈ usesOf s, u ∈ namesT T) :
    Calls Try.prog 29 #[.map (some bm), sv s] w fun e w' => e = .returned (.tuple #[sv (flatP (lookT T) s).2, .bool (flatP (lookT T) s).1]) ∧ Below w.heap.size w w' := by
  have HP := Lib.hid (fun W hA => mParse_any 56 59 #[.pointer (some ⟨w.heap.size + 2, 0, none⟩), .pointer (some ⟨w.heap.size + 1, 0, none⟩)] #[.pointer (some ⟨w.heap.size + 2, 0, none⟩), .pointer (some ⟨w.heap.size, 0, none⟩), .pointer (some ⟨w.heap.size + 3, 0, none⟩)] (fun args w => enters_of Try.func56 (by kernel_rfl) rfl args w) (fun args w => enters_of Try.func59 (by kernel_rfl) rfl args w) s _ [] (flat_keep w bm T s m hT hm h0 hl hu) W hA hl)
  have HS := Lib.hid (flat_start w bm)
  clear hT hm h0 hl hu
  go_enter Try.func29, Try.ntmps29
  go_wp2_with fail
  refine (HP.out _ HS.out).mono ?_
  rintro e w1 ⟨rfl, h1⟩
  rw [List.nil_append] at h1
  have HR : Hid (flatP (lookT T) s = if ((parseM s).1.foldl (pieceM (lookT T)) (false, [])).1 = true then (true, []) else (false, ((parseM s).1.foldl (pieceM (lookT T)) (false, [])).2)) := Lib.hid rfl
  generalize (parseM s).1.foldl (pieceM (lookT T)) (false, []) = st at *
  obtain ⟨lg, out⟩ := st
  simp only [] at HR
  have yl := h1.lg.cell (j := 0) rfl
  have HBD := Lib.hid (Try.Builder_String_any w.heap.size (w.heap.size + 1) out w1 h1.bld h1.below.size)
  have HB := Lib.hid h1.below
  simp only [] at yl
  clear h1
  cases lg with
  | true =>
    rw [if_pos rfl] at HR
    go_wp2_with fail
    go_ret2
    rw [HR.out]
    exact ⟨rfl, HB.out⟩
  | false =>
    rw [if_neg (by decide)] at HR
    go_wp2_with fail
    refine HBD.out.mono ?_
    rintro e w2 ⟨rfl, hb2⟩
    have HB2 := Lib.hid hb2
    clear hb2
    go_wp2_with fail
    go_ret2
    rw [HR.out]
    exact ⟨rfl, HB.out.trans HB2.out⟩
end Go.Proofs.Ytoandhhkmkgmaaa
