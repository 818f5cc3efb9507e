/- Some of the proof's texts, merged; each one's own words stand ahead of it. -/
import Derived.Test.YtoandhhkmkgmaaaMacPlain
import Derived.Test.YtoandhhkmkgmaaaMg22
import Derived.Test.YtoandhhkmkgmaaaSMap
import Derived.Test.YtoandhhkmkgmaaaLnBld
import Derived.Test.YtoandhhkmkgmaaaShelfBld
import Derived.Test.YtoandhhkmkgmaaaShelfLen
import Derived.Deep.RegionWith
import Derived.Test.YtoandhhkmkgmaaaMg15
/- Contracts: the table's flat, with its two callbacks. Texts shorter than 2^32 - 15; every name that is called for stands in the table. -/
namespace Go.Proofs.Ytoandhhkmkgmaaa
open Go.RowKit

/-- An entry of the table. -/
structure EntM where
  blk : Nat
  nm : List UInt8
  val : List UInt8
  A : Option Addr
  c : Nat
  us : List (List UInt8)
  st : Nat
  flat : List UInt8
  large : Bool
def entC (e : EntM) : List Value := [sv e.val, .slice e.A e.us.length e.c, .int .i64 e.st, sv e.flat, .bool e.large]
def tabS (T : List EntM) : SMapT := T.map fun e => (e.nm, .pointer (some ⟨e.blk, 0, none⟩))
def namesT (T : List EntM) : List (List UInt8) := T.map (·.nm)
theorem keys_tabS (T : List EntM) : keysS (tabS T) = namesT T := by unfold keysS tabS namesT; rw [List.map_map]; rfl
/-- The table as it lies. -/
structure TabAt (w : World) (bm : Nat) (T : List EntM) : Prop where
  mp : MapS w bm (tabS T)
  nd : (namesT T).Nodup
  k40 : ∀ n ∈ namesT T, n.length ≤ 40
  blk : ∀ e ∈ T, Blk w e.blk 62 (entC e)
  us : ∀ e ∈ T, Rd w e.A (e.us.map sv)
  bd : (T.map (·.blk)).Nodup
  far : ∀ e ∈ T, ∀ e' ∈ T, ∀ g o f, e.A = some ⟨g, o, f⟩ → 0 < e.us.length → g ≠ e'.blk
  far2 : ∀ e ∈ T, e.blk ≠ bm
  short : ∀ e ∈ T, e.flat.length ≤ 2000
theorem TabAt.below {w w' : World} {bm : Nat} {T : List EntM} (h : TabAt w bm T) (hb : Below w.heap.size w w') : TabAt w' bm T :=
  ⟨h.mp.below hb h.mp.lt, h.nd, h.k40, fun e he => (h.blk e he).below hb (h.blk e he).lt, fun e he => (h.us e he).below hb, h.bd, h.far, h.far2, h.short⟩
theorem strKindM : Try.prog.underlying 9 = some .string := by kernel_rfl
theorem mapKindM : Try.prog.underlying 58 = some (.map 9 63) := by kernel_rfl
theorem ptrZeroM (w : World) : (zeroValue 63).run Try.prog w = .ok (.pointer none) w := Try.zeroValue63 w
theorem keysOkT {T : List EntM} (h : ∀ n ∈ namesT T, n.length ≤ 40) : KeysOk (tabS T) := fun s hs => by
  rw [keys_tabS] at hs
  have := h s hs
  unfold maxLen
  omega
theorem tab_look {w : World} {bm : Nat} {T : List EntM} (hm : MapS w bm (tabS T)) (hk : ∀ n ∈ namesT T, n.length ≤ 40) (n : List UInt8) (hn : n.length ≤ maxLen) :
    (n ∉ namesT T ∧ (Instr.lookup 58 (.map (some bm)) (sv n) false).run Try.prog w = .ok (.pointer none) w) ∨
    ∃ (j : Nat) (e : EntM), T[j]? = some e ∧ e.nm = n ∧ (Instr.lookup 58 (.map (some bm)) (sv n) false).run Try.prog w = .ok (.pointer (some ⟨e.blk, 0, none⟩)) w := by
  rcases run_lookS strKindM mapKindM (ptrZeroM w) hm (keysOkT hk) n hn false with ⟨h1, h2⟩ | ⟨j, v, h1, h2⟩
  · rw [keys_tabS] at h1
    exact .inl ⟨h1, h2⟩
  · unfold tabS at h1
    rw [List.getElem?_map] at h1
    obtain ⟨x, hx, he⟩ := Option.map_eq_some_iff.1 h1
    injection he with h3 h4
    refine .inr ⟨j, x, hx, h3, ?_⟩
    rw [← h4] at h2
    exact h2
theorem once_T {T : List EntM} (hn : (namesT T).Nodup) {e e' : EntM} (he : e ∈ T) (he' : e' ∈ T) (h : e.nm = e'.nm) : e = e' := by
  obtain ⟨i, hi⟩ := List.mem_iff_getElem?.1 he
  obtain ⟨j, hj⟩ := List.mem_iff_getElem?.1 he'
  have e1 : (namesT T)[i]? = some e.nm := by unfold namesT; rw [List.getElem?_map, hi]; rfl
  have e2 : (namesT T)[j]? = some e.nm := by unfold namesT; rw [List.getElem?_map, hj, h]; rfl
  have := (List.getElem?_inj (List.getElem?_eq_some_iff.1 e1).1 hn).1 (e1.trans e2.symm)
  rw [this, hj] at hi
  injection hi with hi
  exact hi.symm
/-- What a name is flat, by the table. -/
def lookT (T : List EntM) (n : List UInt8) : Bool × List UInt8 := match T.find? (fun e => e.nm == n) with
  | some e => (e.large, e.flat)
  | none => (false, [])
theorem lookT_of {T : List EntM} (hn : (namesT T).Nodup) {e : EntM} (he : e ∈ T) : lookT T e.nm = (e.large, e.flat) := by
  unfold lookT
  have : T.find? (fun e' => e'.nm == e.nm) = some e := by
    cases hf : T.find? (fun e' => e'.nm == e.nm) with
    | none => rw [List.find?_eq_none] at hf; exact absurd (hf e he) (by simp)
    | some x =>
      have h1 := List.find?_some hf
      have h2 := List.mem_of_find?_eq_some hf
      obtain ⟨i, hi⟩ := List.mem_iff_getElem?.1 he
      obtain ⟨j, hj⟩ := List.mem_iff_getElem?.1 h2
      have e1 : (namesT T)[i]? = some e.nm := by unfold namesT; rw [List.getElem?_map, hi]; rfl
      have e2 : (namesT T)[j]? = some e.nm := by unfold namesT; rw [List.getElem?_map, hj]; simpa using h1
      have := (List.getElem?_inj (List.getElem?_eq_some_iff.1 e1).1 hn).1 (e1.trans e2.symm)
      subst this
      rw [hi] at hj
      exact hj.symm
  rw [this]
theorem lookT_short {T : List EntM} (h : ∀ e ∈ T, e.flat.length ≤ 2000) (n : List UInt8) : (lookT T n).2.length ≤ 2000 := by
  unfold lookT
  split
  · exact h _ (List.mem_of_find?_eq_some (by assumption))
  · simp

/-- The boxes of flat: the table, the builder, 'large', put. -/
structure FlatAt (w0 : World) (bm : Nat) (st : Bool × List UInt8) (W : World) : Prop where
  bld : Lib.IsBuilder 100 5 w0.heap.size (w0.heap.size + 1) (Lib.byteCells st.2) W
  tb : Blk W w0.heap.size 58 [.map (some bm)]
  lg : Blk W (w0.heap.size + 2) 4 [.bool st.1]
  pt : Blk W (w0.heap.size + 3) 66 [.func (.func 56) #[] #[.pointer (some ⟨w0.heap.size + 2, 0, none⟩), .pointer (some ⟨w0.heap.size + 1, 0, none⟩)]]
  below : Below w0.heap.size w0 W
  short : st.2.length ≤ 2000
theorem FlatAt.drewN {w0 : World} {bm : Nat} {st : Bool × List UInt8} {W : World} (h : FlatAt w0 bm st W) (n : Nat) : FlatAt w0 bm st (W.drewN n) := ⟨h.bld, h.tb, h.lg, h.pt, below_drewN h.below n, h.short⟩
theorem bldM_other {B b k : Nat} {bs : List Value} {W : World} (h : Lib.IsBuilder 100 5 B b bs W) (hk : k ≠ b) {t : TypeId} {vs : List Value} (hb : Blk W k t vs) (ht : t ≠ 5) (j : Nat) (u : Value) : Lib.IsBuilder 100 5 B b bs (W.setCell ⟨k, j, none⟩ u) := by
  have key : ∀ q, Lib.BuilderAt 100 5 B b q bs W → Lib.BuilderAt 100 5 B b q bs (W.setCell ⟨k, j, none⟩ u) := fun q hq => by
    obtain ⟨hB, v, hv, hown, hne⟩ := hq
    refine ⟨hB, v, ?_, ?_, hne⟩
    · rw [Below.heap_setCell _ _ _ _ (fun e => hk e.symm)]; exact hv
    · refine hown.kept (row := some k) ⟨rfl, rfl, rfl, by simp [World.setCell], fun i _ hi => Below.heap_setCell _ _ _ _ (fun e => hi (by simp [e]))⟩ (.inr ?_)
      exact Lib.ownBlock_ne hown hb ht
  exact h.imp (key _) (key _)
theorem FlatAt.setL {w0 : World} {bm : Nat} {st : Bool × List UInt8} {W : World} (h : FlatAt w0 bm st W) (b : Bool) : FlatAt w0 bm (b, st.2) (W.setCell ⟨w0.heap.size + 2, 0, none⟩ (.bool b)) :=
  ⟨bldM_other h.bld (by omega) h.lg (by decide) 0 _, blk_far h.tb (by omega) _, h.lg.same 0 _, blk_far h.pt (by omega) _, h.below.setCell (p := ⟨w0.heap.size + 2, 0, none⟩) (by show w0.heap.size ≤ w0.heap.size + 2; omega) _, h.short⟩
theorem FlatAt.wrote {w0 : World} {bm : Nat} {st : Bool × List UInt8} {W W' : World} (h : FlatAt w0 bm st W) {x : List UInt8} (hs : (st.2 ++ x).length ≤ 2000)
    (hb : Lib.BuilderAt 100 5 w0.heap.size (w0.heap.size + 1) (.pointer (some ⟨w0.heap.size + 1, 0, none⟩)) (Lib.byteCells st.2 ++ Lib.strCells ⟨x.toArray⟩) W')
    (hw : Below w0.heap.size W W') (hk : Lib.OthersKept 5 (some (w0.heap.size + 1)) W W') : FlatAt w0 bm (st.1, st.2 ++ x) W' := by
  have key : ∀ {k : Nat} {t : TypeId} {vs : List Value}, k ≠ w0.heap.size + 1 → t ≠ 5 → Blk W k t vs → Blk W' k t vs := fun hne ht hb => hk _ _ hb (by simpa using hne) (fun c fz e => by injection e with _ e _; exact ht e)
  refine ⟨.inr ?_, key (by omega) (by decide) h.tb, key (by omega) (by decide) h.lg, key (by omega) (by decide) h.pt, h.below.trans hw, hs⟩
  have e : Lib.byteCells st.2 ++ Lib.strCells (⟨x.toArray⟩ : ByteArray) = Lib.byteCells (st.2 ++ x) := by
    show Lib.byteCells st.2 ++ Lib.byteCells _ = _
    rw [Lib.byteCells_append]
  rw [← e]
  exact hb

set_option maxHeartbeats 1000000 in
theorem mPut_any (w0 : World) (bm : Nat) (st : Bool × List UInt8) (x : List UInt8) (W : World) (h : FlatAt w0 bm st W) (hx : x.length ≤ 4294967281) :
    Calls Try.prog 56 #[sv x, .pointer (some ⟨w0.heap.size + 2, 0, none⟩), .pointer (some ⟨w0.heap.size + 1, 0, none⟩)] W fun e W' => e = .returned (.tuple #[]) ∧ FlatAt w0 bm (putM st x) W' := by
  have H := Lib.hid h
  have y := h.lg.cell (j := 0) rfl
  have f := h.lg.free 0
  have HP : Hid (putM st x = if st.1 = true ∨ 2000 < st.2.length + x.length then (true, st.2) else (false, st.2 ++ x)) := Lib.hid rfl
  obtain ⟨lg, out⟩ := st
  simp only [] at HP y f
  have HS := Lib.hid h.short
  have HX := Lib.hid hx
  have HLEN := Lib.hid (Try.Builder_Len w0.heap.size (w0.heap.size + 1) (Lib.byteCells out) W h.bld)
  rw [Lib.byteCells_length] at HLEN
  have hsx : (⟨x.toArray⟩ : ByteArray).size = x.length := rfl
  have HSX := Lib.hid hsx
  obtain ⟨bx, hbx⟩ : ∃ bx, (⟨x.toArray⟩ : ByteArray) = bx := ⟨_, rfl⟩
  have HBX := Lib.hid hbx
  have e0 : sv x = .string bx := by unfold sv; rw [hbx]
  rw [e0]
  rw [hbx] at HSX
  clear h hx hsx hbx e0
  cases lg with
  | true =>
    rw [if_pos (.inl rfl)] at HP
    go_enter Try.func56, Try.ntmps56
    go_wp2_with fail
    go_end0
    rw [HP.out]
    exact ⟨rfl, H.out.setL true⟩
  | false =>
    by_cases hl : 2000 < out.length + x.length
    · rw [if_pos (.inr hl)] at HP
      have hb : (bx.size : Int) > 2000 - (out.length : Int) := by have := HSX.out; omega
      have hb2 : decide ((2000 : Int) - (out.length : Int) < (bx.size : Int)) = true := by simpa using hb
      have hol : out.length ≤ 2000 := HS.out
      clear hl
      go_enter Try.func56, Try.ntmps56
      go_wp2_with fail
      refine HLEN.out.mono ?_
      rintro e w1 ⟨rfl, rfl⟩
      go_wp2_with fail
      go_end0
      rw [HP.out]
      exact ⟨rfl, H.out.setL true⟩
    · rw [if_neg (by simpa using hl)] at HP
      have hb : ¬ (bx.size : Int) > 2000 - (out.length : Int) := by have := HSX.out; omega
      have hb2 : decide ((2000 : Int) - (out.length : Int) < (bx.size : Int)) = false := by simpa using hb
      have H1 := Lib.hid (H.out.setL false)
      have HLT : Hid ((out ++ x).length ≤ 2000) := Lib.hid (by rw [List.length_append]; omega)
      have HB1 := Lib.hid (bld_str w0.heap.size (w0.heap.size + 1) (Lib.byteCells out) bx _ H1.out.bld (by rw [Lib.byteCells_length]; have := HLT.out; rw [List.length_append] at this; have := HSX.out; omega) H1.out.below.size)
      have hol : out.length ≤ 2000 := HS.out
      clear hl
      go_enter Try.func56, Try.ntmps56
      go_wp2_with fail
      refine HLEN.out.mono ?_
      rintro e w1 ⟨rfl, rfl⟩
      go_wp2_with fail
      refine HB1.out.mono ?_
      rintro e w1 ⟨rfl, hb1, hw1, hk1⟩
      rw [← HBX.out] at hb1
      have H2 := Lib.hid (H1.out.wrote HLT.out hb1 hw1 hk1)
      clear hb1 hw1 hk1
      go_wp2_with fail
      go_end0
      rw [HP.out]
      exact ⟨rfl, H2.out⟩
set_option maxHeartbeats 1000000 in
theorem mName_any (w0 : World) (bm : Nat) (T : List EntM) (st : Bool × List UInt8) (n : List UInt8) (W : World) (hT : TabAt w0 bm T) (h : FlatAt w0 bm st W) (hn : n ∈ namesT T) :
    Calls Try.prog 59 #[sv n, .pointer (some ⟨w0.heap.size + 2, 0, none⟩), .pointer (some ⟨w0.heap.size, 0, none⟩), .pointer (some ⟨w0.heap.size + 3, 0, none⟩)] W fun e W' => e = .returned (.tuple #[]) ∧ FlatAt w0 bm (pieceM (lookT T) st (true, n)) W' := by
  have HT := Lib.hid hT
  have H := Lib.hid h
  have hn40 := hT.k40 n hn
  obtain ⟨e, he, rfl⟩ := List.mem_map.1 hn
  have HE : Hid (pieceM (lookT T) st (true, e.nm) = putM (st.1 || e.large, st.2) e.flat) := Lib.hid (by rw [pieceM_eq]; unfold wideM textM; simp [lookT_of hT.nd he])
  have hfind : ∀ V, TabAt V bm T → (Instr.lookup 58 (.map (some bm)) (sv e.nm) false).run Try.prog V = .ok (.pointer (some ⟨e.blk, 0, none⟩)) V := fun V hV => by
    rcases tab_look hV.mp hV.k40 e.nm (by unfold maxLen; omega) with ⟨h1, _⟩ | ⟨j, e', h1, h2, h3⟩
    · exact absurd hn h1
    · have := once_T hV.nd he (List.mem_of_getElem? h1) h2.symm
      rw [← this] at h3
      exact h3
  have HF := Lib.hid hfind
  have hTW := hT.below h.below
  have lk := hfind W hTW
  have H1 := Lib.hid (fun b => h.setL b)
  have HTL : Hid (∀ b, TabAt (W.setCell ⟨w0.heap.size + 2, 0, none⟩ (.bool b)) bm T) := Lib.hid (fun b => hT.below (h.setL b).below)
  have lk1 := fun b => hfind _ (HTL.out b)
  have lk2 := fun b => hfind (W.setCell ⟨w0.heap.size + 2, 0, none⟩ (.bool b)).drew ((HTL.out b).below (below_of_drewN _ 1))
  have yl := h.lg.cell (j := 0) rfl
  have fl := h.lg.free 0
  have yt := h.tb.cell (j := 0) rfl
  have yp := h.pt.cell (j := 0) rfl
  have ye := (hTW.blk e he).cell (j := 4) rfl
  have yt1 := fun b => (h.setL b).tb.cell (j := 0) rfl
  have yp1 := fun b => (h.setL b).pt.cell (j := 0) rfl
  have ye1 := fun b => ((HTL.out b).blk e he).cell (j := 3) rfl
  have HS := Lib.hid (hT.short e he)
  have CC := Lib.hid (fun b => mPut_any w0 bm (b, st.2) e.flat _ ((h.setL b).drewN 1) (by have := HS.out; omega))
  obtain ⟨bx, hbx⟩ : ∃ bx, sv e.nm = .string bx := ⟨_, rfl⟩
  obtain ⟨bf, hbf⟩ : ∃ bf, sv e.flat = .string bf := ⟨_, rfl⟩
  rw [hbx] at lk lk1 lk2 ⊢
  rw [hbf] at ye1 CC
  obtain ⟨lg, out⟩ := st
  simp only [] at HE yl fl yp ye yt1 yp1 ye1 CC lk1 lk2 H1
  clear hT h hn hfind hTW hbx hbf hn40
  cases lg with
  | true =>
    go_enter Try.func59, Try.ntmps59
    go_wp2_with fail
    go_region_with ((go_at_call 56; refine (CC.out true).mono ?_; rintro e w1 ⟨rfl, h1⟩))
    all_goals go_end0
    all_goals rw [HE.out]
    all_goals exact ⟨rfl, by assumption⟩
  | false =>
    go_enter Try.func59, Try.ntmps59
    go_wp2_with fail
    go_region_with ((go_at_call 56; refine (CC.out _).mono ?_; rintro e w1 ⟨rfl, h1⟩))
    all_goals go_end0
    all_goals rw [HE.out]
    all_goals exact ⟨rfl, by assumption⟩
end Go.Proofs.Ytoandhhkmkgmaaa
/- Contract: the table's flat. Texts shorter than 2^32 - 15; every name that is called for stands in the table. -/
namespace Go.Proofs.Ytoandhhkmkgmaaa
open Go.RowKit

@[go_sem] theorem run_store_funcM {P : Program} {w : World} {a : Addr} {m : Mode} (g : Fn) (ts xs : Array Value) : (store a (.func g ts xs) m).run P w = stored P w a (.func g ts xs) m := run_store P w a _ m rfl
theorem fold_short (fl : List UInt8 → Bool × List UInt8) : ∀ (ls : List PieceM) (st : Bool × List UInt8), st.2.length ≤ 2000 → (ls.foldl (pieceM fl) st).2.length ≤ 2000
  | [], st, h => h
  | p :: l, st, h => by
    rw [List.foldl_cons]
    refine fold_short fl l _ ?_
    rw [pieceM_eq]
    unfold putM
    split
    · exact h
    · rename_i hc
      rw [List.length_append]
      simp only [not_or] at hc
      have := hc.2
      simp only [] at this ⊢
      omega
theorem flat_keep (w0 : World) (bm : Nat) (T : List EntM) (s : List UInt8) (m : Int) (hT : TabAt w0 bm T) (hm : w0.cell? ⟨0, 0, none⟩ = some (.int .i64 m)) (h0 : 0 < w0.heap.size) (hl : s.length < 4294967281) (hu : ∀ u ∈ usesOf s, u ∈ namesT T) :
    KeepM Try.prog 56 59 #[.pointer (some ⟨w0.heap.size + 2, 0, none⟩), .pointer (some ⟨w0.heap.size + 1, 0, none⟩)] #[.pointer (some ⟨w0.heap.size + 2, 0, none⟩), .pointer (some ⟨w0.heap.size, 0, none⟩), .pointer (some ⟨w0.heap.size + 3, 0, none⟩)] (s.length + 1) (([] : List PieceM).length + 2 * s.length + 1) ([] ++ (parseM s).1) (fun ls W => FlatAt w0 bm (ls.foldl (pieceM (lookT T)) (false, [])) W) where
  cell := fun ls W h => ⟨m, (h.below.cell (p := ⟨0, 0, none⟩) h0).trans hm⟩
  draws := fun ls W n h => h.drewN n
  text := fun ls x W hx _ hI => (mPut_any w0 bm _ x W hI (by omega)).mono fun e W' h => ⟨h.1, by rw [List.foldl_append]; exact h.2⟩
  name := fun ls x W _ _ hf hI => (mName_any w0 bm T _ x W hT hI (hu x (by
    obtain ⟨r, hr⟩ := hf
    unfold usesOf
    rw [mem_uses]
    rw [List.nil_append] at hr
    rw [← hr]
    simp))).mono fun e W' h => ⟨h.1, by rw [List.foldl_append]; exact h.2⟩
def putF (w : World) : Value := .func (.func 56) #[] #[.pointer (some ⟨w.heap.size + 1 + 1, 0, none⟩), .pointer (some ⟨w.heap.size + 1, 0, none⟩)]
/-- The world in which flat calls parse. -/
def flatW (w : World) (bm : Nat) : World := (((w.alloc (.cells #[.map (some bm)] 58)).alloc (.cells #[.pointer none, .slice none 0 0] 100)).alloc (.cells #[.bool false] 4)).alloc (.cells #[putF w] 66)
theorem flatW_blk (w : World) (bm : Nat) : Blk (flatW w bm) (w.heap.size + 1 + 1 + 1) 66 [putF w] := by
  have h := Blk.new (((w.alloc (.cells #[.map (some bm)] 58)).alloc (.cells #[.pointer none, .slice none 0 0] 100)).alloc (.cells #[.bool false] 4)) #[putF w] 66
  unfold flatW
  simpa using h
theorem flat_start (w : World) (bm : Nat) : FlatAt w bm (false, []) (flatW w bm) := by
  have hA := Blk.new w #[.map (some bm)] 58
  have hB : Lib.IsBuilder 100 5 (w.heap.size + 1) (w.heap.size + 1) [] ((w.alloc (.cells #[.map (some bm)] 58)).alloc (.cells #[.pointer none, .slice none 0 0] 100)) := by
    have h := Lib.fresh_isBuilder 100 5 (w.alloc (.cells #[.map (some bm)] 58))
    simpa using h
  have hC := Blk.new ((w.alloc (.cells #[.map (some bm)] 58)).alloc (.cells #[.pointer none, .slice none 0 0] 100)) #[.bool false] 4
  have b1 : Below (w.heap.size + 1) (w.alloc (.cells #[.map (some bm)] 58)) (flatW w bm) := by
    unfold flatW
    exact (((Below.refl _ _).alloc (by simp) _).alloc (by simp) _).alloc (by simp <;> omega) _
  have b2 : Below (w.heap.size + 1 + 1) ((w.alloc (.cells #[.map (some bm)] 58)).alloc (.cells #[.pointer none, .slice none 0 0] 100)) (flatW w bm) := by
    unfold flatW
    exact ((Below.refl _ _).alloc (by simp) _).alloc (by simp) _
  have b3 : Below (w.heap.size + 1 + 1 + 1) (((w.alloc (.cells #[.map (some bm)] 58)).alloc (.cells #[.pointer none, .slice none 0 0] 100)).alloc (.cells #[.bool false] 4)) (flatW w bm) := by
    unfold flatW
    exact (Below.refl _ _).alloc (by simp) _
  have b0 : Below w.heap.size w (flatW w bm) := by
    unfold flatW
    exact ((((Below.refl _ _).alloc (Nat.le_refl _) _).alloc (by simp) _).alloc (by simp [Nat.add_assoc]) _).alloc (by simp [Nat.add_assoc]) _
  have hp := flatW_blk w bm
  have hB2 : Lib.IsBuilder 100 5 w.heap.size (w.heap.size + 1) [] (flatW w bm) := by
    have key : ∀ q, Lib.BuilderAt 100 5 (w.heap.size + 1) (w.heap.size + 1) q [] ((w.alloc (.cells #[.map (some bm)] 58)).alloc (.cells #[.pointer none, .slice none 0 0] 100)) → Lib.BuilderAt 100 5 w.heap.size (w.heap.size + 1) q [] (flatW w bm) := fun q hq => by
      obtain ⟨_, v, hv, hown, hne⟩ := hq
      refine ⟨by omega, v, ?_, ?_, hne⟩
      · rw [b2.block _ (by omega)]; exact hv
      · rcases hown.2 with h | ⟨g, cap, cur, h1, h2, h3, h4⟩
        · exact ⟨hown.1, .inl h⟩
        · have hlt := lt_of_blockG h3
          exact ⟨hown.1, .inr ⟨g, cap, cur, h1, by omega, by rw [b2.block _ (by simp at hlt; omega)]; exact h3, h4⟩⟩
    exact hB.imp (key _) (key _)
  exact ⟨hB2, hA.below b1 (by omega), by simpa using hC.below (B := w.heap.size + 1 + 1 + 1) (by simpa using b3) (by simp), hp, b0, by simp⟩
set_option maxHeartbeats 1000000 in
theorem mFlat_any (bm : Nat) (T : List EntM) (s : List UInt8) (w : World) (m : Int) (hT : TabAt w bm T) (hm : w.cell? ⟨0, 0, none⟩ = some (.int .i64 m)) (h0 : 0 < w.heap.size) (hl : s.length < 4294967281) (hu : ∀ u ∈ usesOf s, u ∈ namesT T) :
    Calls Try.prog 29 #[.map (some bm), sv s] w fun e w' => e = .returned (.tuple #[sv (flatP (lookT T) s).2, .bool (flatP (lookT T) s).1]) ∧ Below w.heap.size w w' := by
  have HP := Lib.hid (fun W hA => mParse_any 56 59 #[.pointer (some ⟨w.heap.size + 2, 0, none⟩), .pointer (some ⟨w.heap.size + 1, 0, none⟩)] #[.pointer (some ⟨w.heap.size + 2, 0, none⟩), .pointer (some ⟨w.heap.size, 0, none⟩), .pointer (some ⟨w.heap.size + 3, 0, none⟩)] (fun args w => enters_of Try.func56 (by kernel_rfl) rfl args w) (fun args w => enters_of Try.func59 (by kernel_rfl) rfl args w) s _ [] (flat_keep w bm T s m hT hm h0 hl hu) W hA hl)
  have HS := Lib.hid (flat_start w bm)
  clear hT hm h0 hl hu
  go_enter Try.func29, Try.ntmps29
  go_wp2_with fail
  refine (HP.out _ HS.out).mono ?_
  rintro e w1 ⟨rfl, h1⟩
  rw [List.nil_append] at h1
  have HR : Hid (flatP (lookT T) s = if ((parseM s).1.foldl (pieceM (lookT T)) (false, [])).1 = true then (true, []) else (false, ((parseM s).1.foldl (pieceM (lookT T)) (false, [])).2)) := Lib.hid rfl
  generalize (parseM s).1.foldl (pieceM (lookT T)) (false, []) = st at *
  obtain ⟨lg, out⟩ := st
  simp only [] at HR
  have yl := h1.lg.cell (j := 0) rfl
  have HBD := Lib.hid (Try.Builder_String_any w.heap.size (w.heap.size + 1) out w1 h1.bld h1.below.size)
  have HB := Lib.hid h1.below
  simp only [] at yl
  clear h1
  cases lg with
  | true =>
    rw [if_pos rfl] at HR
    go_wp2_with fail
    go_ret2
    rw [HR.out]
    exact ⟨rfl, HB.out⟩
  | false =>
    rw [if_neg (by decide)] at HR
    go_wp2_with fail
    refine HBD.out.mono ?_
    rintro e w2 ⟨rfl, hb2⟩
    have HB2 := Lib.hid hb2
    clear hb2
    go_wp2_with fail
    go_ret2
    rw [HR.out]
    exact ⟨rfl, HB.out.trans HB2.out⟩
end Go.Proofs.Ytoandhhkmkgmaaa
/- Tables of macros: how they grow while they are worked out, in plain Lean and in memory. No condition. -/
namespace Go.Proofs.Ytoandhhkmkgmaaa
open Go.RowKit

/-- A world in which only the blocks of E, and new ones, are other. -/
structure ButE (E : Nat → Prop) (w w' : World) : Prop where
  os : w'.os = w.os
  tape : w'.tape = w.tape
  output : w'.output = w.output
  size : w.heap.size ≤ w'.heap.size
  block : ∀ k, k < w.heap.size → ¬ E k → w'.heap[k]? = w.heap[k]?
section
variable {E : Nat → Prop} {w w' w'' : World}
theorem ButE.refl (E : Nat → Prop) (w : World) : ButE E w w := ⟨rfl, rfl, rfl, Nat.le_refl _, fun _ _ _ => rfl⟩
theorem ButE.trans (h : ButE E w w') (k : ButE E w' w'') : ButE E w w'' :=
  ⟨k.os.trans h.os, k.tape.trans h.tape, k.output.trans h.output, Nat.le_trans h.size k.size, fun i hi hn => (k.block i (Nat.lt_of_lt_of_le hi h.size) hn).trans (h.block i hi hn)⟩
theorem ButE.of_below (E : Nat → Prop) (h : Below w.heap.size w w') : ButE E w w' := ⟨h.os, h.tape, h.output, h.size, fun k hk _ => h.block k hk⟩
theorem ButE.setCell (h : ButE E w w') {p : Addr} (hp : E p.block) (u : Value) : ButE E w (w'.setCell p u) :=
  h.trans ⟨rfl, rfl, rfl, by simp [World.setCell], fun k _ hn => Below.heap_setCell _ _ _ _ (fun e => hn (e ▸ hp))⟩
theorem ButE.below (h : ButE E w w') {B : Nat} (hB : ∀ k, E k → B ≤ k) (hw : B ≤ w.heap.size) : Below B w w' :=
  ⟨h.os, h.tape, h.output, h.size, fun k hk => h.block k (by omega) (fun he => by have := hB k he; omega)⟩
end
/-- An entry that is worked out: what it says stands; who is at work stays so; what is done stays done. -/
structure GrE (e e' : EntM) : Prop where
  blk : e'.blk = e.blk
  nm : e'.nm = e.nm
  val : e'.val = e.val
  A : e'.A = e.A
  c : e'.c = e.c
  us : e'.us = e.us
  one : e'.st = 1 ↔ e.st = 1
  two : e.st = 2 → e' = e
theorem GrE.refl (e : EntM) : GrE e e := ⟨rfl, rfl, rfl, rfl, rfl, rfl, Iff.rfl, fun _ => rfl⟩
theorem GrE.trans {a b c : EntM} (h : GrE a b) (k : GrE b c) : GrE a c :=
  ⟨k.blk.trans h.blk, k.nm.trans h.nm, k.val.trans h.val, k.A.trans h.A, k.c.trans h.c, k.us.trans h.us, k.one.trans h.one, fun h2 => by
    have e := h.two h2
    rw [k.two (by rw [e]; exact h2), e]⟩
def GrM : List EntM → List EntM → Prop
  | [], [] => True
  | e :: T, e' :: T' => GrE e e' ∧ GrM T T'
  | _, _ => False
theorem GrM.refl : ∀ T : List EntM, GrM T T
  | [] => trivial
  | e :: T => ⟨GrE.refl e, GrM.refl T⟩
theorem GrM.trans : ∀ {a b c : List EntM}, GrM a b → GrM b c → GrM a c
  | [], [], [], _, _ => trivial
  | _ :: _, _ :: _, _ :: _, h, k => ⟨h.1.trans k.1, GrM.trans h.2 k.2⟩
  | [], _ :: _, _, h, _ => h.elim
  | _ :: _, [], _, h, _ => h.elim
  | [], [], _ :: _, _, k => k.elim
  | _ :: _, _ :: _, [], _, k => k.elim
theorem GrM.fwd : ∀ {a b : List EntM}, GrM a b → ∀ e ∈ a, ∃ e' ∈ b, GrE e e'
  | [], [], _, e, he => by cases he
  | x :: a, y :: b, h, e, he => by
    rcases List.mem_cons.1 he with rfl | he
    · exact ⟨y, List.mem_cons_self .., h.1⟩
    · obtain ⟨e', h1, h2⟩ := GrM.fwd h.2 e he
      exact ⟨e', List.mem_cons_of_mem _ h1, h2⟩
  | [], _ :: _, h, _, _ => h.elim
  | _ :: _, [], h, _, _ => h.elim
theorem GrM.bwd : ∀ {a b : List EntM}, GrM a b → ∀ e' ∈ b, ∃ e ∈ a, GrE e e'
  | [], [], _, e, he => by cases he
  | x :: a, y :: b, h, e, he => by
    rcases List.mem_cons.1 he with rfl | he
    · exact ⟨x, List.mem_cons_self .., h.1⟩
    · obtain ⟨e', h1, h2⟩ := GrM.bwd h.2 e he
      exact ⟨e', List.mem_cons_of_mem _ h1, h2⟩
  | [], _ :: _, h, _, _ => h.elim
  | _ :: _, [], h, _, _ => h.elim
theorem GrM.names : ∀ {a b : List EntM}, GrM a b → namesT b = namesT a
  | [], [], _ => rfl
  | x :: a, y :: b, h => by unfold namesT; rw [List.map_cons, List.map_cons, h.1.nm]; congr 1; exact GrM.names h.2
  | [], _ :: _, h => h.elim
  | _ :: _, [], h => h.elim
theorem GrM.blks : ∀ {a b : List EntM}, GrM a b → b.map (·.blk) = a.map (·.blk)
  | [], [], _ => rfl
  | x :: a, y :: b, h => by rw [List.map_cons, List.map_cons, h.1.blk]; congr 1; exact GrM.blks h.2
  | [], _ :: _, h => h.elim
  | _ :: _, [], h => h.elim
def pairM (e : EntM) : MacT := (e.nm, e.val)
theorem GrM.pairs : ∀ {a b : List EntM}, GrM a b → b.map pairM = a.map pairM
  | [], [], _ => rfl
  | x :: a, y :: b, h => by
    rw [List.map_cons, List.map_cons, GrM.pairs h.2]
    unfold pairM
    rw [h.1.nm, h.1.val]
  | [], _ :: _, h => h.elim
  | _ :: _, [], h => h.elim
/-- How many have not been looked at. -/
def zerosM (T : List EntM) : Nat := T.countP fun e => e.st == 0
theorem GrM.zeros : ∀ {a b : List EntM}, GrM a b → (∀ e ∈ a, e.st ≤ 2) → zerosM b ≤ zerosM a
  | [], [], _, _ => Nat.le_refl _
  | x :: a, y :: b, h, hs => by
    have ih := GrM.zeros h.2 (fun e he => hs e (List.mem_cons_of_mem _ he))
    unfold zerosM at *
    rw [List.countP_cons, List.countP_cons]
    by_cases hx : x.st = 0
    · simp only [hx]
      split <;> simp <;> omega
    · have hy : y.st ≠ 0 := fun e => by
        have h1 := h.1.one
        have h2 := h.1.two
        have h3 := hs x (List.mem_cons_self ..)
        have h4 : x.st = 1 ∨ x.st = 2 := by omega
        rcases h4 with h4 | h4
        · have := h1.2 h4; omega
        · rw [h2 h4] at e; omega
      simp [hx, hy, ih]
  | [], _ :: _, h, _ => h.elim
  | _ :: _, [], h, _ => h.elim
/-- One entry turned. -/
def updM (T : List EntM) (n : List UInt8) (f : EntM → EntM) : List EntM := T.map fun e => if e.nm = n then f e else e
structure KeepF (f : EntM → EntM) : Prop where
  blk : ∀ e, (f e).blk = e.blk
  nm : ∀ e, (f e).nm = e.nm
  val : ∀ e, (f e).val = e.val
  A : ∀ e, (f e).A = e.A
  c : ∀ e, (f e).c = e.c
  us : ∀ e, (f e).us = e.us
def setSt (s : Nat) (e : EntM) : EntM := { e with st := s }
def setFl (t : List UInt8) (e : EntM) : EntM := { e with flat := t }
def setLg (b : Bool) (e : EntM) : EntM := { e with large := b }
theorem keep_st (s : Nat) : KeepF (setSt s) := ⟨fun _ => rfl, fun _ => rfl, fun _ => rfl, fun _ => rfl, fun _ => rfl, fun _ => rfl⟩
theorem keep_fl (s : List UInt8) : KeepF (setFl s) := ⟨fun _ => rfl, fun _ => rfl, fun _ => rfl, fun _ => rfl, fun _ => rfl, fun _ => rfl⟩
theorem keep_lg (s : Bool) : KeepF (setLg s) := ⟨fun _ => rfl, fun _ => rfl, fun _ => rfl, fun _ => rfl, fun _ => rfl, fun _ => rfl⟩
section
variable {T : List EntM} {n : List UInt8} {f : EntM → EntM} (hf : KeepF f)
theorem mem_upd {e : EntM} (he : e ∈ T) : (if e.nm = n then f e else e) ∈ updM T n f := List.mem_map.2 ⟨e, he, rfl⟩
theorem mem_upd_other {e : EntM} (he : e ∈ T) (hn : e.nm ≠ n) : e ∈ updM T n f := by have := mem_upd (n := n) (f := f) he; rwa [if_neg hn] at this
theorem mem_upd_same {e : EntM} (he : e ∈ T) (hn : e.nm = n) : f e ∈ updM T n f := by have := mem_upd (n := n) (f := f) he; rwa [if_pos hn] at this
include hf
theorem upd_names : namesT (updM T n f) = namesT T := by
  unfold namesT updM
  rw [List.map_map]
  apply List.map_congr_left
  intro e _
  show (if e.nm = n then f e else e).nm = e.nm
  split
  · exact hf.nm e
  · rfl
theorem upd_blks : (updM T n f).map (·.blk) = T.map (·.blk) := by
  unfold updM
  rw [List.map_map]
  apply List.map_congr_left
  intro e _
  show (if e.nm = n then f e else e).blk = e.blk
  split
  · exact hf.blk e
  · rfl
theorem upd_pairs : (updM T n f).map pairM = T.map pairM := by
  unfold updM
  rw [List.map_map]
  apply List.map_congr_left
  intro e _
  show pairM (if e.nm = n then f e else e) = pairM e
  split
  · unfold pairM; rw [hf.nm, hf.val]
  · rfl
theorem upd_tabS : tabS (updM T n f) = tabS T := by
  unfold tabS updM
  rw [List.map_map]
  apply List.map_congr_left
  intro e _
  show ((if e.nm = n then f e else e).nm, Value.pointer (some ⟨(if e.nm = n then f e else e).blk, 0, none⟩)) = _
  split
  · rw [hf.nm, hf.blk]
  · rfl
theorem of_upd {x : EntM} (hx : x ∈ updM T n f) : ∃ e ∈ T, (e.nm = n ∧ x = f e ∨ e.nm ≠ n ∧ x = e) ∧ x.blk = e.blk ∧ x.nm = e.nm ∧ x.A = e.A ∧ x.us = e.us ∧ x.val = e.val := by
  obtain ⟨e, he, rfl⟩ := List.mem_map.1 hx
  refine ⟨e, he, ?_⟩
  by_cases h : e.nm = n
  · rw [if_pos h]
    exact ⟨.inl ⟨h, rfl⟩, hf.blk e, hf.nm e, hf.A e, hf.us e, hf.val e⟩
  · rw [if_neg h]
    exact ⟨.inr ⟨h, rfl⟩, rfl, rfl, rfl, rfl, rfl⟩
theorem lookT_upd {u : List UInt8} (hu : u ≠ n) : lookT (updM T n f) u = lookT T u := by
  unfold lookT updM
  have : (T.map fun e => if e.nm = n then f e else e).find? (fun e => e.nm == u) = T.find? (fun e => e.nm == u) := by
    induction T with
    | nil => rfl
    | cons e T ih =>
      rw [List.map_cons, List.find?_cons, List.find?_cons]
      by_cases h : e.nm = n
      · rw [if_pos h]
        have h1 : ((f e).nm == u) = false := by rw [hf.nm, h]; simpa using fun e => hu e.symm
        have h2 : (e.nm == u) = false := by rw [h]; simpa using fun e => hu e.symm
        rw [h1, h2]
        exact ih
      · rw [if_neg h]
        cases e.nm == u
        · exact ih
        · rfl
  rw [this]
/-- A store into an entry. -/
theorem TabAt.put {w : World} {bm : Nat} (h : TabAt w bm T) {e : EntM} (he : e ∈ T) (j : Nat) (u : Value) (hc : entC (f e) = (entC e).set j u) (hs : (f e).flat.length ≤ 2000) : TabAt (w.setCell ⟨e.blk, j, none⟩ u) bm (updM T e.nm f) := by
  have hother : ∀ x ∈ T, x.nm ≠ e.nm → x.blk ≠ e.blk := fun x hx hne hb => by
    obtain ⟨i, hi⟩ := List.mem_iff_getElem?.1 hx
    obtain ⟨k, hk⟩ := List.mem_iff_getElem?.1 he
    have e1 : (T.map (·.blk))[i]? = some e.blk := by rw [List.getElem?_map, hi, ← hb]; rfl
    have e2 : (T.map (·.blk))[k]? = some e.blk := by rw [List.getElem?_map, hk]; rfl
    have := (List.getElem?_inj (List.getElem?_eq_some_iff.1 e1).1 h.bd).1 (e1.trans e2.symm)
    subst this
    rw [hi] at hk
    injection hk with hk
    exact hne (by rw [hk])
  refine ⟨?_, by rw [upd_names hf]; exact h.nd, by rw [upd_names hf]; exact h.k40, fun x hx => ?_, fun x hx => ?_, by rw [upd_blks hf]; exact h.bd, fun x hx x' hx' g o fz hA hl => ?_, fun x hx => ?_, fun x hx => ?_⟩
  · rw [upd_tabS hf]
    exact h.mp.same (Below.heap_setCell _ _ _ _ (fun e' => h.far2 e he e'.symm))
  · obtain ⟨y, hy, h1 | h1, _⟩ := of_upd hf hx
    · have : y = e := once_T h.nd hy he h1.1
      subst this
      rw [h1.2, hc, hf.blk]
      exact (h.blk y hy).same j u
    · rw [h1.2]
      exact blk_far (h.blk y hy) (hother y hy h1.1) u
  · obtain ⟨y, hy, _, _, _, hA, hU, _⟩ := of_upd hf hx
    rw [hA, hU]
    intro hn
    obtain ⟨b, off, h1, h2, h3⟩ := h.us y hy hn
    have hne : b ≠ e.blk := h.far y hy e he b off none h1 (by simpa using hn)
    refine ⟨b, off, h1, by simpa [World.setCell] using h2, fun k v hk => ?_⟩
    have := h3 k v hk
    unfold World.cell? at this ⊢
    rw [Below.heap_setCell _ _ _ _ hne]
    exact this
  · obtain ⟨y, hy, _, hb, _, hA', hU', _⟩ := of_upd hf hx
    obtain ⟨z, hz, _, hbz, _⟩ := of_upd hf hx'
    rw [hbz]
    exact h.far y hy z hz g o fz (by rw [← hA']; exact hA) (by rw [← hU']; exact hl)
  · obtain ⟨y, hy, _, hb, _⟩ := of_upd hf hx
    rw [hb]
    exact h.far2 y hy
  · obtain ⟨y, hy, h1 | h1, _⟩ := of_upd hf hx
    · have : y = e := once_T h.nd hy he h1.1
      subst this
      rw [h1.2]
      exact hs
    · rw [h1.2]
      exact h.short y hy
end
theorem upd_gr {T : List EntM} {n : List UInt8} {f : EntM → EntM} (h : ∀ e ∈ T, e.nm = n → GrE e (f e)) : GrM T (updM T n f) := by
  unfold updM
  induction T with
  | nil => trivial
  | cons e T ih =>
    rw [List.map_cons]
    refine ⟨?_, ih (fun x hx => h x (List.mem_cons_of_mem _ hx))⟩
    split
    · exact h e (List.mem_cons_self ..) (by assumption)
    · exact GrE.refl e

/-! ### What holds while macros are worked out -/
structure InvM (l : List MacT) (T : List EntM) : Prop where
  pairs : T.map pairM = l
  uses : ∀ e ∈ T, e.us = usesOf e.val
  le2 : ∀ e ∈ T, e.st ≤ 2
  done : ∀ e ∈ T, e.st = 2 → (∀ u ∈ e.us, ∃ e' ∈ T, e'.nm = u ∧ e'.st = 2) ∧ Acc (CallsM l) e.nm ∧ (e.large, e.flat) = flatP (lookT T) e.val
theorem InvM.names {l : List MacT} {T : List EntM} (h : InvM l T) : namesL l = namesT T := by
  unfold namesL namesT
  rw [← h.pairs, List.map_map]
  rfl
theorem InvM.calls {l : List MacT} {T : List EntM} (h : InvM l T) (hn : (namesT T).Nodup) {e : EntM} (he : e ∈ T) {u : List UInt8} : CallsM l u e.nm ↔ u ∈ e.us := by
  rw [h.uses e he]
  constructor
  · rintro ⟨v, hv, hu⟩
    rw [← h.pairs] at hv
    obtain ⟨x, hx, hp⟩ := List.mem_map.1 hv
    unfold pairM at hp
    injection hp with h1 h2
    have := once_T hn hx he h1
    subst this
    rw [h2]
    exact hu
  · intro hu
    exact ⟨e.val, by rw [← h.pairs]; exact List.mem_map.2 ⟨e, he, rfl⟩, hu⟩
/-- One is at work. -/
theorem InvM.start {l : List MacT} {T : List EntM} (h : InvM l T) (hn : (namesT T).Nodup) {e : EntM} (he : e ∈ T) (h0 : e.st = 0) : InvM l (updM T e.nm (setSt 1)) := by
  have hk := keep_st 1
  refine ⟨by rw [upd_pairs hk]; exact h.pairs, fun x hx => ?_, fun x hx => ?_, fun x hx h2 => ?_⟩
  · obtain ⟨y, hy, _, _, _, _, hU, hV⟩ := of_upd hk hx
    rw [hU, hV]
    exact h.uses y hy
  · obtain ⟨y, hy, h1 | h1, _⟩ := of_upd hk hx
    · rw [h1.2]; show 1 ≤ 2; omega
    · rw [h1.2]; exact h.le2 y hy
  · obtain ⟨y, hy, h1 | h1, _⟩ := of_upd hk hx
    · rw [h1.2] at h2; cases h2
    · obtain ⟨hne, rfl⟩ := h1
      obtain ⟨g1, g2, g3⟩ := h.done x hy h2
      have hother : ∀ u ∈ x.us, u ≠ e.nm ∧ ∃ e' ∈ T, e'.nm = u ∧ e'.st = 2 := fun u hu => by
        obtain ⟨e', h1, h2, h3⟩ := g1 u hu
        refine ⟨fun hc => ?_, e', h1, h2, h3⟩
        have := once_T hn h1 he (h2.trans hc)
        subst this
        omega
      refine ⟨fun u hu => ?_, g2, ?_⟩
      · obtain ⟨hne', e', h1, h2, h3⟩ := hother u hu
        exact ⟨e', mem_upd_other h1 (by rw [h2]; exact hne'), h2, h3⟩
      · rw [g3]
        exact flatP_congr (fun u hu => by rw [lookT_upd hk]; exact (hother u (by rw [h.uses x hy]; exact hu)).1)
/-- One is done. -/
theorem InvM.finish {l : List MacT} {T : List EntM} (h : InvM l T) (hn : (namesT T).Nodup) {e : EntM} (he : e ∈ T) (h1 : e.st = 1) (hu : ∀ u ∈ e.us, ∃ e' ∈ T, e'.nm = u ∧ e'.st = 2) {b : Bool} {t : List UInt8} (hf : (b, t) = flatP (lookT (updM T e.nm (setSt 2))) e.val) :
    InvM l (updM (updM (updM T e.nm (setSt 2)) e.nm (setFl t)) e.nm (setLg b)) := by
  have heq : updM (updM (updM T e.nm (setSt 2)) e.nm (setFl t)) e.nm (setLg b) = updM T e.nm (fun x => { x with st := 2, flat := t, large := b }) := by
    unfold updM
    rw [List.map_map, List.map_map]
    apply List.map_congr_left
    intro x _
    show (if (if (if x.nm = e.nm then setSt 2 x else x).nm = e.nm then setFl t (if x.nm = e.nm then setSt 2 x else x) else (if x.nm = e.nm then setSt 2 x else x)).nm = e.nm then setLg b (if (if x.nm = e.nm then setSt 2 x else x).nm = e.nm then setFl t (if x.nm = e.nm then setSt 2 x else x) else (if x.nm = e.nm then setSt 2 x else x)) else (if (if x.nm = e.nm then setSt 2 x else x).nm = e.nm then setFl t (if x.nm = e.nm then setSt 2 x else x) else (if x.nm = e.nm then setSt 2 x else x))) = _
    by_cases hx : x.nm = e.nm
    · simp [hx, setSt, setFl, setLg]
    · simp [hx]
  rw [heq]
  have hk : KeepF (fun x : EntM => { x with st := 2, flat := t, large := b }) := ⟨fun _ => rfl, fun _ => rfl, fun _ => rfl, fun _ => rfl, fun _ => rfl, fun _ => rfl⟩
  have hne : ∀ x ∈ T, x.st = 2 → x.nm ≠ e.nm := fun x hx h2 hc => by
    have := once_T hn hx he hc
    subst this
    omega
  have hnot : ∀ u ∈ e.us, u ≠ e.nm := fun u hu' => by
    obtain ⟨e', g1, g2, g3⟩ := hu u hu'
    rw [← g2]
    exact hne e' g1 g3
  have hin : ∀ u, (∃ e' ∈ T, e'.nm = u ∧ e'.st = 2) → ∃ e' ∈ updM T e.nm (fun x => { x with st := 2, flat := t, large := b }), e'.nm = u ∧ e'.st = 2 := fun u hu' => by
    obtain ⟨e', g1, g2, g3⟩ := hu'
    exact ⟨e', mem_upd_other g1 (hne e' g1 g3), g2, g3⟩
  refine ⟨by rw [upd_pairs hk]; exact h.pairs, fun x hx => ?_, fun x hx => ?_, fun x hx h2 => ?_⟩
  · obtain ⟨y, hy, _, _, _, _, hU, hV⟩ := of_upd hk hx
    rw [hU, hV]
    exact h.uses y hy
  · obtain ⟨y, hy, h1 | h1, _⟩ := of_upd hk hx
    · rw [h1.2]; show 2 ≤ 2; omega
    · rw [h1.2]; exact h.le2 y hy
  · obtain ⟨y, hy, h3 | h3, _⟩ := of_upd hk hx
    · obtain ⟨h4, rfl⟩ := h3
      have := once_T hn hy he h4
      subst this
      refine ⟨fun u hu' => hin u (hu u hu'), ⟨_, fun u hc => ?_⟩, ?_⟩
      · have hu' : u ∈ y.us := (h.calls hn he).1 hc
        obtain ⟨e', g1, g2, g3⟩ := hu u hu'
        rw [← g2]
        exact (h.done e' g1 g3).2.1
      · show (b, t) = flatP _ y.val
        rw [hf]
        exact flatP_congr (fun u hu' => by
          have hne' := hnot u (by rw [h.uses y he]; exact hu')
          rw [lookT_upd (keep_st 2) hne', lookT_upd hk hne'])
    · obtain ⟨hne', rfl⟩ := h3
      obtain ⟨g1, g2, g3⟩ := h.done x hy h2
      refine ⟨fun u hu' => hin u (g1 u hu'), g2, ?_⟩
      rw [g3]
      exact flatP_congr (fun u hu' => by
        obtain ⟨e', q1, q2, q3⟩ := g1 u (by rw [h.uses x hy]; exact hu')
        rw [lookT_upd hk]
        rw [← q2]
        exact hne e' q1 q3)
theorem no_ring {l : List MacT} {n : List UInt8} (h : Relation.TransGen (CallsM l) n n) : ¬ Acc (CallsM l) n := by
  intro ha
  have ht := ha.transGen
  have key : ∀ x, Acc (Relation.TransGen (CallsM l)) x → ¬ Relation.TransGen (CallsM l) x x := fun x hx => by
    induction hx with
    | intro x _ ih => exact fun hxx => ih x hxx hxx
  exact key n ht h
theorem trans_head {l : List MacT} {a b c : List UInt8} (h : CallsM l a b) (k : Relation.TransGen (CallsM l) b c) : Relation.TransGen (CallsM l) a c := by
  induction k with
  | single hb => exact .tail (.single h) hb
  | tail _ hb ih => exact .tail ih hb
end Go.Proofs.Ytoandhhkmkgmaaa
/- Contract: the table's work. Texts shorter than 2^32 - 15; every name that is called for stands in the table. -/
namespace Go.Proofs.Ytoandhhkmkgmaaa
open Go.RowKit

theorem zeros_le (T : List EntM) (n : List UInt8) : zerosM (updM T n (setSt 1)) ≤ zerosM T := by
  unfold zerosM updM
  induction T with
  | nil => exact Nat.le_refl _
  | cons x T ih =>
    rw [List.map_cons, List.countP_cons, List.countP_cons]
    by_cases hx : x.nm = n
    · rw [if_pos hx]
      have : (setSt 1 x).st = 1 := rfl
      rw [this]
      simp only [Nat.reduceBEq, Bool.false_eq_true, if_false]
      split <;> omega
    · rw [if_neg hx]; omega
theorem zeros_lt {T : List EntM} {e : EntM} (he : e ∈ T) (h0 : e.st = 0) : zerosM (updM T e.nm (setSt 1)) < zerosM T := by
  induction T with
  | nil => cases he
  | cons x T ih =>
    have hle := zeros_le T e.nm
    unfold zerosM updM at *
    rw [List.map_cons, List.countP_cons, List.countP_cons]
    rcases List.mem_cons.1 he with rfl | he
    · rw [if_pos rfl]
      have : (setSt 1 e).st = 1 := rfl
      rw [this, h0]
      simp only [Nat.reduceBEq, Bool.false_eq_true, if_false, BEq.rfl, if_true]
      omega
    · have := ih he
      by_cases hx : x.nm = e.nm
      · rw [if_pos hx]
        have h2 : (setSt 1 x).st = 1 := rfl
        rw [h2]
        simp only [Nat.reduceBEq, Bool.false_eq_true, if_false]
        split <;> omega
      · rw [if_neg hx]; omega
theorem gr_whole {n : List UInt8} {f : EntM → EntM} (hf : KeepF f) (h2 : ∀ e, (f e).st = 2) : ∀ {T Ti : List EntM}, (∀ e ∈ T, e.nm = n → e.st = 0) → GrM (updM T n (setSt 1)) Ti → GrM T (updM Ti n f)
  | [], [], _, _ => trivial
  | x :: T, y :: Ti, h0, h => by
    unfold updM at h
    rw [List.map_cons] at h
    unfold updM
    rw [List.map_cons]
    refine ⟨?_, gr_whole hf h2 (fun e he => h0 e (List.mem_cons_of_mem _ he)) h.2⟩
    have hg := h.1
    by_cases hx : x.nm = n
    · rw [if_pos hx] at hg
      have hy : y.nm = n := by rw [hg.nm]; exact hx
      have hz := h0 x (List.mem_cons_self ..) hx
      rw [if_pos hy]
      exact ⟨(hf.blk y).trans hg.blk, (hf.nm y).trans hg.nm, (hf.val y).trans hg.val, (hf.A y).trans hg.A, (hf.c y).trans hg.c, (hf.us y).trans hg.us, ⟨(fun q => absurd ((h2 y).symm.trans q) (by decide)), (fun q => absurd (hz.symm.trans q) (by decide))⟩, (fun q => absurd (hz.symm.trans q) (by decide))⟩
    · rw [if_neg hx] at hg
      have hy : y.nm ≠ n := by rw [hg.nm]; exact hx
      rw [if_neg hy]
      exact hg
  | [], _ :: _, _, h => h.elim
  | _ :: _, [], _, h => h.elim
/-- A table that is at work. -/
structure WkAt (l : List MacT) (bm : Nat) (m : Int) (T : List EntM) (w : World) : Prop where
  tab : TabAt w bm T
  inv : InvM l T
  cell : w.cell? ⟨0, 0, none⟩ = some (.int .i64 m)
  pos : 0 < w.heap.size
  nz : ∀ x ∈ T, x.blk ≠ 0
  short : ∀ x ∈ T, x.val.length < 4294967281
  inn : ∀ x ∈ T, ∀ u ∈ x.us, u ∈ namesT T
def inT (T : List EntM) (k : Nat) : Prop := k ∈ T.map (·.blk)
def WorkPost (l : List MacT) (bm : Nat) (m : Int) (T : List EntM) (n : List UInt8) (w : World) (e : Ending) (w' : World) : Prop :=
  ∃ b, e = .returned (.bool b) ∧ ButE (inT T) w w' ∧ (if b = true then ∃ T', WkAt l bm m T' w' ∧ GrM T T' ∧ ∃ x ∈ T', x.nm = n ∧ x.st = 2 else ¬ TidyM l)
/-- The loop over the names that are called for. -/
structure WkLoop (l : List MacT) (bm : Nat) (m : Int) (T : List EntM) (w : World) (T1 : List EntM) (us : List (List UInt8)) (k : Nat) (Ti : List EntM) (wr : World) : Prop where
  at_ : WkAt l bm m Ti wr
  gr : GrM T1 Ti
  done : ∀ u ∈ us.take k, ∃ x ∈ Ti, x.nm = u ∧ x.st = 2
  but : ButE (inT T) w wr
theorem gr_st2 {T T' : List EntM} (h : GrM T T') {u : List UInt8} (hu : ∃ x ∈ T, x.nm = u ∧ x.st = 2) : ∃ x ∈ T', x.nm = u ∧ x.st = 2 := by
  obtain ⟨x, h1, h2, h3⟩ := hu
  obtain ⟨y, h4, h5⟩ := h.fwd x h1
  have := h5.two h3
  subst this
  exact ⟨y, h4, h2, h3⟩
theorem takeS_any {α : Type} {us : List α} {k : Nat} {u : α} (h : us[k]? = some u) : us.take (k + 1) = us.take k ++ [u] := by
  obtain ⟨hlt, hx⟩ := List.getElem?_eq_some_iff.1 h
  rw [List.take_succ_eq_append_getElem hlt, hx]
theorem takeS_M {us : List (List UInt8)} {k : Nat} {u : List UInt8} (h : us[k]? = some u) : us.take (k + 1) = us.take k ++ [u] := by
  obtain ⟨hlt, hx⟩ := List.getElem?_eq_some_iff.1 h
  rw [List.take_succ_eq_append_getElem hlt, hx]
/-- One is set to work. -/
theorem WkAt.begin {l : List MacT} {bm : Nat} {m : Int} {T : List EntM} {w : World} (h : WkAt l bm m T w) {e : EntM} (he : e ∈ T) (h0 : e.st = 0) :
    WkAt l bm m (updM T e.nm (setSt 1)) (w.setCell ⟨e.blk, 2, none⟩ (.int .i64 1)) := by
  have hk := keep_st 1
  refine ⟨h.tab.put hk he 2 _ rfl (h.tab.short e he), h.inv.start h.tab.nd he h0, ?_, by simpa [World.setCell] using h.pos, fun x hx => ?_, fun x hx => ?_, fun x hx u hu => ?_⟩
  · have := h.cell
    unfold World.cell? at this ⊢
    rw [Below.heap_setCell _ _ _ _ (fun e' => h.nz e he e'.symm)]
    exact this
  · obtain ⟨y, hy, _, hb, _⟩ := of_upd hk hx
    rw [hb]; exact h.nz y hy
  · obtain ⟨y, hy, _, _, _, _, _, hv⟩ := of_upd hk hx
    rw [hv]; exact h.short y hy
  · obtain ⟨y, hy, _, _, _, _, hU, _⟩ := of_upd hk hx
    rw [upd_names hk]
    exact h.inn y hy u (by rw [← hU]; exact hu)
theorem WkAt.turn {l : List MacT} {bm : Nat} {m : Int} {T : List EntM} {w : World} (h : WkAt l bm m T w) {f : EntM → EntM} (hk : KeepF f) {e : EntM} (he : e ∈ T) (j : Nat) (u : Value) (hc : entC (f e) = (entC e).set j u) (hs : (f e).flat.length ≤ 2000) (hi : InvM l (updM T e.nm f)) :
    WkAt l bm m (updM T e.nm f) (w.setCell ⟨e.blk, j, none⟩ u) := by
  refine ⟨h.tab.put hk he j _ hc hs, hi, ?_, by simpa [World.setCell] using h.pos, fun x hx => ?_, fun x hx => ?_, fun x hx u hu => ?_⟩
  · have := h.cell
    unfold World.cell? at this ⊢
    rw [Below.heap_setCell _ _ _ _ (fun e' => h.nz e he e'.symm)]
    exact this
  · obtain ⟨y, hy, _, hb, _⟩ := of_upd hk hx
    rw [hb]; exact h.nz y hy
  · obtain ⟨y, hy, _, _, _, _, _, hv⟩ := of_upd hk hx
    rw [hv]; exact h.short y hy
  · obtain ⟨y, hy, _, _, _, _, hU, _⟩ := of_upd hk hx
    rw [upd_names hk]
    exact h.inn y hy u (by rw [← hU]; exact hu)
theorem inT_of {T : List EntM} {e : EntM} (he : e ∈ T) : inT T e.blk := List.mem_map.2 ⟨e, he, rfl⟩
theorem flatP_short (fl : List UInt8 → Bool × List UInt8) (v : List UInt8) : (flatP fl v).2.length ≤ 2000 := by
  unfold flatP
  split
  · simp
  · exact fold_short fl _ _ (by simp)
/-- The end of work: what flat made is stored. -/
theorem work_end {l : List MacT} {bm : Nat} {m : Int} {T Ti : List EntM} {w wr w3 : World} {n : List UInt8} {e x : EntM} (he : e ∈ T) (hn : e.nm = n) (h0 : e.st = 0) (hT : WkAt l bm m T w) (hL : WkLoop l bm m T w (updM T n (setSt 1)) e.us e.us.length Ti wr) (hx : x ∈ Ti) (hg : GrE (setSt 1 e) x)
    (hb : Below (wr.setCell ⟨x.blk, 2, none⟩ (.int .i64 2)).heap.size (wr.setCell ⟨x.blk, 2, none⟩ (.int .i64 2)) w3) :
    ∃ T', WkAt l bm m T' ((w3.setCell ⟨x.blk, 3, none⟩ (sv (flatP (lookT (updM Ti n (setSt 2))) x.val).2)).setCell ⟨x.blk, 4, none⟩ (.bool (flatP (lookT (updM Ti n (setSt 2))) x.val).1)) ∧ GrM T T' ∧ ∃ y ∈ T', y.nm = n ∧ y.st = 2 := by
  have hxn : x.nm = n := by rw [hg.nm]; exact hn
  have hx1 : x.st = 1 := hg.one.2 rfl
  subst hn
  have hu : ∀ u ∈ x.us, ∃ y ∈ Ti, y.nm = u ∧ y.st = 2 := fun u hu => hL.done u (by rw [List.take_length]; rw [hg.us] at hu; exact hu)
  have hfin := hL.at_.inv.finish hL.at_.tab.nd hx hx1 hu (b := (flatP (lookT (updM Ti e.nm (setSt 2))) x.val).1) (t := (flatP (lookT (updM Ti e.nm (setSt 2))) x.val).2) (by rw [hxn])
  have hwhole : GrM T (updM (updM (updM Ti e.nm (setSt 2)) e.nm (setFl (flatP (lookT (updM Ti e.nm (setSt 2))) x.val).2)) e.nm (setLg (flatP (lookT (updM Ti e.nm (setSt 2))) x.val).1)) := by
    have heq : ∀ (t : List UInt8) (b : Bool), updM (updM (updM Ti e.nm (setSt 2)) e.nm (setFl t)) e.nm (setLg b) = updM Ti e.nm (fun x => { x with st := 2, flat := t, large := b }) := fun t b => by
      unfold updM
      rw [List.map_map, List.map_map]
      apply List.map_congr_left
      intro x _
      show (if (if (if x.nm = e.nm then setSt 2 x else x).nm = e.nm then setFl t (if x.nm = e.nm then setSt 2 x else x) else (if x.nm = e.nm then setSt 2 x else x)).nm = e.nm then setLg b (if (if x.nm = e.nm then setSt 2 x else x).nm = e.nm then setFl t (if x.nm = e.nm then setSt 2 x else x) else (if x.nm = e.nm then setSt 2 x else x)) else (if (if x.nm = e.nm then setSt 2 x else x).nm = e.nm then setFl t (if x.nm = e.nm then setSt 2 x else x) else (if x.nm = e.nm then setSt 2 x else x))) = _
      by_cases hx : x.nm = e.nm
      · simp [hx, setSt, setFl, setLg]
      · simp [hx]
    rw [heq]
    exact gr_whole (f := fun z => { z with st := 2, flat := (flatP (lookT (updM Ti e.nm (setSt 2))) x.val).2, large := (flatP (lookT (updM Ti e.nm (setSt 2))) x.val).1 }) ⟨fun _ => rfl, fun _ => rfl, fun _ => rfl, fun _ => rfl, fun _ => rfl, fun _ => rfl⟩ (fun _ => rfl) (fun y hy hyn => by have := once_T hT.tab.nd hy he hyn; rw [this]; exact h0) hL.gr
  rw [hxn] at hfin
  have t2 := hL.at_.tab.put (keep_st 2) hx 2 (.int .i64 2) rfl (hL.at_.tab.short x hx)
  have t3 := t2.below hb
  have m2 : setSt 2 x ∈ updM Ti x.nm (setSt 2) := mem_upd_same hx rfl
  have t4 := t3.put (keep_fl (flatP (lookT (updM Ti e.nm (setSt 2))) x.val).2) m2 3 (sv (flatP (lookT (updM Ti e.nm (setSt 2))) x.val).2) rfl (flatP_short _ _)
  have m3 : setFl (flatP (lookT (updM Ti e.nm (setSt 2))) x.val).2 (setSt 2 x) ∈ updM (updM Ti x.nm (setSt 2)) x.nm (setFl (flatP (lookT (updM Ti e.nm (setSt 2))) x.val).2) := mem_upd_same m2 rfl
  have t5 := t4.put (keep_lg (flatP (lookT (updM Ti e.nm (setSt 2))) x.val).1) m3 4 (.bool (flatP (lookT (updM Ti e.nm (setSt 2))) x.val).1) rfl (flatP_short _ _)
  have m4 : setLg (flatP (lookT (updM Ti e.nm (setSt 2))) x.val).1 (setFl (flatP (lookT (updM Ti e.nm (setSt 2))) x.val).2 (setSt 2 x)) ∈ updM (updM (updM Ti x.nm (setSt 2)) x.nm (setFl (flatP (lookT (updM Ti e.nm (setSt 2))) x.val).2)) x.nm (setLg (flatP (lookT (updM Ti e.nm (setSt 2))) x.val).1) := mem_upd_same m3 rfl
  rw [hxn] at m4
  have hcellb : ∀ (a b : Addr) (u v : Value), a.block = x.blk → b.block = x.blk → ((w3.setCell a u).setCell b v).cell? ⟨0, 0, none⟩ = w3.cell? ⟨0, 0, none⟩ := fun a b u v ha hb => by
    have hz := hL.at_.nz x hx
    unfold World.cell?
    rw [Below.heap_setCell _ _ _ _ (fun e' => hz (by rw [← hb]; exact e'.symm)), Below.heap_setCell _ _ _ _ (fun e' => hz (by rw [← ha]; exact e'.symm))]
  refine ⟨_, ⟨?_, hfin, ?_, ?_, fun y hy => ?_, fun y hy => ?_, fun y hy u hu => ?_⟩, hwhole, ⟨_, m4, hxn, rfl⟩⟩
  · have e1 : (setSt 2 x).nm = e.nm := hxn
    have e2 : (setFl (flatP (lookT (updM Ti e.nm (setSt 2))) x.val).2 (setSt 2 x)).nm = e.nm := hxn
    rw [e2, e1, hxn] at t5
    exact t5
  · rw [hcellb _ _ _ _ rfl rfl]
    have hz := hL.at_.nz x hx
    have hp : 0 < (wr.setCell ⟨x.blk, 2, none⟩ (.int .i64 2)).heap.size := by simpa [World.setCell] using hL.at_.pos
    rw [hb.cell (p := ⟨0, 0, none⟩) hp]
    have := hL.at_.cell
    unfold World.cell? at this ⊢
    rw [Below.heap_setCell _ _ _ _ (fun e' => hz e'.symm)]
    exact this
  · have h1 := hb.size
    have h2 := hL.at_.pos
    simp [World.setCell] at h1 ⊢
    omega
  · obtain ⟨z, hz, hgz⟩ := hwhole.bwd y hy
    rw [hgz.blk]; exact hT.nz z hz
  · obtain ⟨z, hz, hgz⟩ := hwhole.bwd y hy
    rw [hgz.val]; exact hT.short z hz
  · obtain ⟨z, hz, hgz⟩ := hwhole.bwd y hy
    rw [hwhole.names]
    exact hT.inn z hz u (by rw [← hgz.us]; exact hu)
end Go.Proofs.Ytoandhhkmkgmaaa
/- Contract: the table's work, walked. Texts shorter than 2^32 - 15; every name that is called for stands in the table. -/
namespace Go.Proofs.Ytoandhhkmkgmaaa
open Go.RowKit

theorem WkAt.below {l : List MacT} {bm : Nat} {m : Int} {T : List EntM} {w w' : World} (h : WkAt l bm m T w) (hb : Below w.heap.size w w') : WkAt l bm m T w' :=
  ⟨h.tab.below hb, h.inv, (hb.cell (p := ⟨0, 0, none⟩) h.pos).trans h.cell, Nat.lt_of_lt_of_le h.pos hb.size, h.nz, h.short, h.inn⟩
theorem parseF_len : ∀ (f : Nat) (s : List UInt8), (parseF f s).1.length ≤ 2 * s.length + 1
  | 0, _ => by simp [parseF]
  | f + 1, s => by
    unfold parseF
    split
    · simp
    · rename_i hm
      have hm' : (Lib.cut s [36]).2.2 = true := by simpa using hm
      have hl := cut_less hm'
      have ht := trimP_len (Lib.cut s [36]).2.1 [36]
      have hc := (cut_len (Lib.cut s [36]).2.1 41).2
      split
      · have := parseF_len f (Lib.trimPrefix (Lib.cut s [36]).2.1 [36])
        simp only [List.length_cons]
        omega
      · split
        · have := parseF_len f (Lib.cut (Lib.cut s [36]).2.1 [41]).2.1
          simp only [List.length_cons]
          omega
        · simp
theorem usesOf_len (v : List UInt8) : (usesOf v).length ≤ 2 * v.length + 1 := Nat.le_trans (usesP_len _) (parseF_len _ _)
set_option maxHeartbeats 2000000 in
theorem mWork_any (l : List MacT) (bm : Nat) (m : Int) : ∀ (k : Nat) (T : List EntM) (n : List UInt8) (w : World), zerosM T ≤ k → WkAt l bm m T w → n ∈ namesT T → (∀ x ∈ T, x.st = 1 → Relation.TransGen (CallsM l) n x.nm) →
    Calls Try.prog 64 #[.map (some bm), sv n] w (WorkPost l bm m T n w) := by
  intro k
  induction k using Nat.strongRecOn with
  | _ k ih =>
    intro T n w hz hA hn hpath
    obtain ⟨e, he, hen⟩ := List.mem_map.1 hn
    have lk : (Instr.lookup 58 (.map (some bm)) (sv n) false).run Try.prog w = .ok (.pointer (some ⟨e.blk, 0, none⟩)) w := by
      rcases tab_look hA.tab.mp hA.tab.k40 n (by have := hA.tab.k40 n hn; unfold maxLen; omega) with ⟨h1, _⟩ | ⟨j, e', h1, h2, h3⟩
      · exact absurd hn h1
      · have := once_T hA.tab.nd he (List.mem_of_getElem? h1) (hen.trans h2.symm)
        rw [← this] at h3
        exact h3
    have y2 := (hA.tab.blk e he).cell (j := 2) rfl
    have f2 := (hA.tab.blk e he).free 2
    have HA := Lib.hid hA
    have HE := Lib.hid he
    have HN := Lib.hid hn
    have HEN := Lib.hid hen
    have HPA := Lib.hid hpath
    have HZ := Lib.hid hz
    have hle := hA.inv.le2 e he
    have HIH := Lib.hid ih
    have hv : sv n = sv n := rfl
    have hbs : ∃ bn, sv n = .string bn := ⟨_, rfl⟩
    obtain ⟨bn, hbn⟩ := hbs
    have HBN := Lib.hid hbn
    rw [hbn] at lk ⊢
    clear hA he hn hen hpath hz ih hv hbn
    go_enter Try.func64, Try.ntmps64
    have hst : e.st = 0 ∨ e.st = 1 ∨ e.st = 2 := by omega
    clear hle
    rcases hst with hst | hst | hst
    · have HS := Lib.hid hst
      rw [hst] at y2
      clear hst
      have HB := Lib.hid (HA.out.begin HE.out HS.out)
      have HP1 : Hid (GrE e e) := Lib.hid (GrE.refl e)
      have y1 := (HB.out.tab.blk _ (mem_upd_same HE.out rfl)).cell (j := 1) rfl
      have HL0 : Hid (WkLoop l bm m T w (updM T n (setSt 1)) e.us 0 (updM T n (setSt 1)) (w.setCell ⟨e.blk, 2, none⟩ (.int .i64 1))) := Lib.hid (by
        have h1 := HB.out
        rw [HEN.out] at h1
        exact ⟨h1, GrM.refl _, by simp, (ButE.refl _ _).setCell (inT_of HE.out) _⟩)
      have HZ1 : Hid (zerosM (updM T n (setSt 1)) < k) := Lib.hid (by
        have h1 := zeros_lt HE.out HS.out
        rw [HEN.out] at h1
        have := HZ.out
        omega)
      have HM1 : Hid (setSt 1 e ∈ updM T n (setSt 1)) := Lib.hid (mem_upd_same HE.out HEN.out)
      have HUS : Hid (∀ W Ti, WkLoop l bm m T w (updM T n (setSt 1)) e.us 0 Ti W → True) := Lib.hid (fun _ _ _ => trivial)
      clear HUS HP1
      change (w.setCell ⟨e.blk, 2, none⟩ (.int .i64 1)).cell? ⟨e.blk, 1, none⟩ = some (.slice e.A e.us.length e.c) at y1
      generalize hw1 : w.setCell ⟨e.blk, 2, none⟩ (.int .i64 1) = w1 at *
      have HGE : Hid (∃ A us, e.A = A ∧ e.us = us) := Lib.hid ⟨_, _, rfl, rfl⟩
      obtain ⟨A, us, hA, hus⟩ := HGE.out
      rw [hA, hus] at y1
      rw [hus] at HL0
      have HA2 := Lib.hid hA
      have HUS := Lib.hid hus
      have hul : us.length ≤ 8589934563 := by
        have h1 := HA.out.inv.uses e HE.out
        have h2 := usesOf_len e.val
        have h3 := HA.out.short e HE.out
        rw [← hus, h1]
        omega
      have HBLK : Hid (∀ Ti, GrM (updM T n (setSt 1)) Ti → inT Ti = inT T) := Lib.hid (fun Ti h => by
        unfold inT
        rw [h.blks, upd_blks (keep_st 1)])
      clear hA hus HGE
      go_wp2_with fail
      go_loopw [7, 29] (fun v i wr => ∃ (q : Nat) (Ti : List EntM), i = .int .i64 (q : Int) ∧ q ≤ us.length ∧ Hid (WkLoop l bm m T w (updM T n (setSt 1)) us q Ti wr)) (fun _ i _ => us.length - (intOf i).toNat)
      case atStart => exact ⟨0, _, rfl, by omega, HL0⟩
      case round =>
        clear hw1 y1 y2 f2 lk
        obtain ⟨q, Ti, rfl, hq, HL⟩ := hrel
        obtain ⟨x, hx, hg⟩ := HL.out.gr.fwd _ HM1.out
        by_cases hlt : q < us.length
        · obtain ⟨u, hu⟩ : ∃ u, us[q]? = some u := ⟨_, List.getElem?_eq_getElem hlt⟩
          have hr := HL.out.at_.tab.us x hx
          rw [hg.A, hg.us] at hr
          change Rd wr e.A (e.us.map sv) at hr
          rw [HA2.out, HUS.out] at hr
          obtain ⟨b, off, rfl, hc⟩ := hr.scell hu
          have HU := Lib.hid hu
          have HCU : Hid (CallsM l u n) := Lib.hid (by
            rw [← HEN.out]
            exact (HA.out.inv.calls HA.out.tab.nd HE.out).2 (by rw [HUS.out]; exact List.mem_of_getElem? hu))
          have HC := Lib.hid (HIH.out (zerosM Ti) (by
            have h1 := HL.out.gr.zeros (by
              intro y hy
              obtain ⟨z, hz, h2 | h2, _⟩ := of_upd (keep_st 1) hy
              · rw [h2.2]; show 1 ≤ 2; omega
              · rw [h2.2]; exact HA.out.inv.le2 z hz)
            have := HZ1.out
            omega) Ti u wr (Nat.le_refl _) HL.out.at_ (by
              rw [HL.out.gr.names, upd_names (keep_st 1)]
              exact HA.out.inn e HE.out u (by rw [HUS.out]; exact List.mem_of_getElem? hu)) (fun y hy hy1 => by
              obtain ⟨z, hz, hgz⟩ := HL.out.gr.bwd y hy
              have hz1 := hgz.one.1 hy1
              rw [hgz.nm]
              obtain ⟨z0, hz0, h2 | h2, _⟩ := of_upd (keep_st 1) hz
              · rw [h2.2]
                show Relation.TransGen _ u z0.nm
                rw [h2.1]
                exact .single HCU.out
              · rw [h2.2] at hz1 ⊢
                exact trans_head HCU.out (HPA.out z0 hz0 hz1)))
          obtain ⟨bu, hbu⟩ : ∃ bu, sv u = .string bu := ⟨_, rfl⟩
          have hcs : wr.cell? ⟨b, off + q, none⟩ = some (.string bu) := by rw [← hbu]; exact hc
          rw [hbu] at HC
          clear hu hr hc hbu hx hg
          go_wp2_with fail
          refine HC.out.mono ?_
          rintro e2 w2 ⟨bb, rfl, hbut, hres⟩
          have HBT := Lib.hid hbut
          clear hbut
          cases bb with
          | true =>
            obtain ⟨T2, hw2, hgr2, hd2⟩ := hres
            have HW2 := Lib.hid hw2
            have HG2 := Lib.hid hgr2
            have HD2 := Lib.hid hd2
            clear hw2 hgr2 hd2
            go_wp2_with fail
            go_roundw
            case rel => exact ⟨q + 1, T2, by go_num, by omega, Lib.hid ⟨HW2.out, HL.out.gr.trans HG2.out, fun v hv => by
              rw [takeS_M HU.out] at hv
              rcases List.mem_append.1 hv with hv | hv
              · exact gr_st2 HG2.out (HL.out.done v hv)
              · rw [List.mem_singleton.1 hv]; exact HD2.out, HL.out.but.trans (by have := HBT.out; rwa [HBLK.out Ti HL.out.gr] at this)⟩⟩
            case measure => simp [intOf]; omega
          | false =>
            have HT2 := Lib.hid (show ¬ TidyM l from hres)
            clear hres
            go_wp2_with fail
            go_ret
            exact ⟨false, rfl, HL.out.but.trans (by have := HBT.out; rwa [HBLK.out Ti HL.out.gr] at this), by simpa using HT2.out⟩
        · obtain rfl : q = us.length := by omega
          have hbk : x.blk = e.blk := hg.blk
          have HX := Lib.hid hx
          have HG := Lib.hid hg
          have y2 := (HL.out.at_.tab.blk x hx).cell (j := 2) rfl
          have f2 := (HL.out.at_.tab.blk x hx).free 2
          have hxs : x.st = 1 := hg.one.2 rfl
          rw [hbk] at y2 f2
          rw [hxs] at y2
          have t2 := HL.out.at_.tab.put (keep_st 2) hx 2 (.int .i64 2) rfl (HL.out.at_.tab.short x hx)
          have hxn : x.nm = n := by rw [hg.nm]; exact HEN.out
          rw [hbk, hxn] at t2
          have HT2 := Lib.hid t2
          have hm2 := mem_upd_same (n := n) (f := setSt 2) hx hxn
          have y0 := (t2.blk _ hm2).cell (j := 0) rfl
          have hb0 : (setSt 2 x).blk = e.blk := hbk
          rw [hb0] at y0
          have hcell2 : (wr.setCell ⟨e.blk, 2, none⟩ (.int .i64 2)).cell? ⟨0, 0, none⟩ = some (.int .i64 m) := by
            have := HL.out.at_.cell
            unfold World.cell? at this ⊢
            rw [Below.heap_setCell _ _ _ _ (fun e' => HA.out.nz e HE.out e'.symm)]
            exact this
          have HF := Lib.hid (mFlat_any bm (updM Ti n (setSt 2)) x.val (wr.setCell ⟨e.blk, 2, none⟩ (.int .i64 2)) m t2 hcell2 (by simpa [World.setCell] using HL.out.at_.pos) (HL.out.at_.short x hx) (fun u hu => by
            rw [upd_names (keep_st 2)]
            exact HL.out.at_.inn x hx u (by rw [HL.out.at_.inv.uses x hx]; exact hu)))
          have HM2 := Lib.hid hm2
          obtain ⟨bv, hbv⟩ : ∃ bv, sv x.val = .string bv := ⟨_, rfl⟩
          rw [hbv] at HF
          have y0' : (wr.setCell ⟨e.blk, 2, none⟩ (.int .i64 2)).cell? ⟨e.blk, 0, none⟩ = some (.string bv) := by rw [← hbv]; exact y0
          have HBK := Lib.hid hbk
          clear hx hg hbk hxs t2 hm2 y0 hb0 hcell2 hbv hxn
          go_wp2_with fail
          refine HF.out.mono ?_
          rintro e3 w3 ⟨rfl, hb3⟩
          have HB3 := Lib.hid hb3
          have t3 := HT2.out.below hb3
          have y3 := (t3.blk _ HM2.out).cell (j := 3) rfl
          have y4 := (t3.blk _ HM2.out).cell (j := 4) rfl
          have f3 := (t3.blk _ HM2.out).free 3
          have f4 := (t3.blk _ HM2.out).free 4
          change w3.cell? ⟨x.blk, 3, none⟩ = _ at y3
          change w3.cell? ⟨x.blk, 4, none⟩ = _ at y4
          change w3.frozen? ⟨x.blk, 3, none⟩ = _ at f3
          change w3.frozen? ⟨x.blk, 4, none⟩ = _ at f4
          have HEND := Lib.hid (work_end (w3 := w3) HE.out HEN.out HS.out HA.out (by rw [HUS.out]; exact HL.out) HX.out HG.out (by rw [HBK.out]; exact hb3))
          rw [HBK.out] at y3 y4 f3 f4 HEND
          have HBE : Hid (ButE (inT T) w ((w3.setCell ⟨e.blk, 3, none⟩ (sv (flatP (lookT (updM Ti n (setSt 2))) x.val).2)).setCell ⟨e.blk, 4, none⟩ (.bool (flatP (lookT (updM Ti n (setSt 2))) x.val).1))) := Lib.hid (((HL.out.but.setCell (p := ⟨e.blk, 2, none⟩) (inT_of HE.out) _).trans (ButE.of_below _ hb3)).setCell (inT_of HE.out) _ |>.setCell (inT_of HE.out) _)
          generalize (flatP (lookT (updM Ti n (setSt 2))) x.val).1 = lg at *
          generalize (flatP (lookT (updM Ti n (setSt 2))) x.val).2 = fl at *
          obtain ⟨bf, hbf⟩ : ∃ bf, sv fl = .string bf := ⟨_, rfl⟩
          rw [hbf] at HEND HBE ⊢
          clear hb3 t3 hbf
          go_wp2_with fail
          go_ret
          exact ⟨true, rfl, HBE.out, by simpa using HEND.out⟩
    · have HS := Lib.hid hst
      rw [hst] at y2
      clear hst
      go_wp2_with fail
      go_ret
      exact ⟨false, rfl, ButE.refl _ _, by
        simp only [Bool.false_eq_true, if_false]
        intro ht
        have h1 := HPA.out e HE.out HS.out
        rw [HEN.out] at h1
        exact no_ring h1 (ht n (by rw [HA.out.inv.names]; exact HN.out))⟩
    · have HS := Lib.hid hst
      rw [hst] at y2
      clear hst
      go_wp2_with fail
      go_ret
      exact ⟨true, rfl, ButE.refl _ _, by
        simp only [if_true]
        exact ⟨T, HA.out, GrM.refl T, e, HE.out, HEN.out, HS.out⟩⟩
end Go.Proofs.Ytoandhhkmkgmaaa
/- Macros as they come in; a table that gets one entry more. No condition. -/
namespace Go.Proofs.Ytoandhhkmkgmaaa
open Go.RowKit Go.ChangeMaps

/-- A pair of suffixes. -/
abbrev InfT := List UInt8 × List UInt8
/-- Macros as they lie. -/
def macV (l : List MacT) : List Value := l.flatMap fun x => [sv x.1, sv x.2]
theorem setB_cell {w : World} {bm k : Nat} (o : Obj) (h : k ≠ bm) (j : Nat) : (setBlock w bm o).cell? ⟨k, j, none⟩ = w.cell? ⟨k, j, none⟩ := by
  unfold World.cell?
  rw [setB_other _ _ h]
def insM (T : List EntM) (n : List UInt8) (b : Nat) : SMapT := tabS T ++ [(n, Value.pointer (some ⟨b, 0, none⟩))]
theorem TabAt.snoc {w : World} {bm : Nat} {T : List EntM} (h : TabAt w bm T) (e : EntM) (hn : e.nm ∉ namesT T) (h40 : e.nm.length ≤ 40) (hb : e.blk = w.heap.size) (hu : Rd w e.A (e.us.map sv)) (hs : e.flat.length ≤ 2000)
    (hf : ∀ g o f, e.A = some ⟨g, o, f⟩ → 0 < e.us.length → ∀ x ∈ T, g ≠ x.blk) :
    TabAt (setBlock (w.alloc (.cells (entC e).toArray 62)) bm (.map (entS (insM T e.nm w.heap.size)) (insM T e.nm w.heap.size).length)) bm (T ++ [e]) := by
  have hlt := h.mp.lt
  have hbel : Below w.heap.size w (w.alloc (.cells (entC e).toArray 62)) := (Below.refl _ _).alloc (Nat.le_refl _) _
  have h1 := h.below hbel
  have hkeep : ∀ k, k ≠ bm → (setBlock (w.alloc (.cells (entC e).toArray 62)) bm (.map (entS (insM T e.nm w.heap.size)) (insM T e.nm w.heap.size).length)).heap[k]? = (w.alloc (.cells (entC e).toArray 62)).heap[k]? := fun k hk => setB_other _ _ hk
  have htab : tabS (T ++ [e]) = insM T e.nm w.heap.size := by unfold insM tabS; rw [List.map_append, ← hb]; rfl
  have hblt : ∀ x ∈ T, x.blk < w.heap.size := fun x hx => (h.blk x hx).lt
  have hnew : Blk (w.alloc (.cells (entC e).toArray 62)) w.heap.size 62 (entC e) := by
    have := Blk.new w (entC e).toArray 62
    simpa using this
  have hrd : ∀ {A : Option Addr} {xs : List Value}, Rd w A xs → Rd (setBlock (w.alloc (.cells (entC e).toArray 62)) bm (.map (entS (insM T e.nm w.heap.size)) (insM T e.nm w.heap.size).length)) A xs := fun {A xs} hr hp => by
    obtain ⟨b, off, h1, h2, h3⟩ := hr hp
    refine ⟨b, off, h1, by rw [setB_size]; simp; omega, fun j u hj => ?_⟩
    have h4 := h3 j u hj
    have hne : b ≠ bm := fun e => by
      subst e
      have := h.mp
      unfold MapS at this
      unfold World.cell? at h4
      rw [this] at h4
      cases h4
    rw [setB_cell _ hne, hbel.cell (p := ⟨b, off + j, none⟩) h2]
    exact h4
  refine ⟨?_, ?_, ?_, fun x hx => ?_, fun x hx => ?_, ?_, fun x hx y hy g o f hA hl => ?_, fun x hx => ?_, fun x hx => ?_⟩
  · rw [htab]
    exact mapS_put h1.mp _
  · unfold namesT
    rw [List.map_append, List.nodup_append]
    exact ⟨h.nd, by simp, fun a ha b hb' e' => by
      simp only [List.map_cons, List.map_nil, List.mem_singleton] at hb'
      subst hb'; subst e'; exact hn ha⟩
  · intro n hm
    unfold namesT at hm
    rw [List.map_append] at hm
    rcases List.mem_append.1 hm with hm | hm
    · exact h.k40 n hm
    · simp only [List.map_cons, List.map_nil, List.mem_singleton] at hm
      rw [hm]; exact h40
  · rcases List.mem_append.1 hx with hx | hx
    · unfold Blk
      rw [hkeep _ (h.far2 x hx)]
      exact h1.blk x hx
    · rw [List.mem_singleton.1 hx]
      unfold Blk
      rw [hb, hkeep _ (by omega)]
      exact hnew
  · rcases List.mem_append.1 hx with hx | hx
    · exact hrd (h.us x hx)
    · rw [List.mem_singleton.1 hx]
      exact hrd hu
  · rw [List.map_append, List.nodup_append]
    exact ⟨h.bd, by simp, fun a ha b hb' e' => by
      simp only [List.map_cons, List.map_nil, List.mem_singleton] at hb'
      subst hb'; subst e'
      obtain ⟨x, hx, hxe⟩ := List.mem_map.1 ha
      have := hblt x hx
      omega⟩
  · have hgl : ∀ z ∈ T ++ [e], z.A = some ⟨g, o, f⟩ → 0 < z.us.length → g < w.heap.size := fun z hz hzA hzl => by
      have hr : Rd w z.A (z.us.map sv) := by
        rcases List.mem_append.1 hz with hz | hz
        · exact h.us z hz
        · rw [List.mem_singleton.1 hz]; exact hu
      obtain ⟨b, off, h1, h2, _⟩ := hr (by simpa using hzl)
      rw [hzA] at h1
      injection h1 with h1
      injection h1 with h1 _ _
      omega
    have hg := hgl x hx hA hl
    rcases List.mem_append.1 hy with hy | hy
    · rcases List.mem_append.1 hx with hx | hx
      · exact h.far x hx y hy g o f hA hl
      · rw [List.mem_singleton.1 hx] at hA hl
        exact hf g o f hA hl y hy
    · rw [List.mem_singleton.1 hy, hb]
      omega
  · rcases List.mem_append.1 hx with hx | hx
    · exact h.far2 x hx
    · rw [List.mem_singleton.1 hx, hb]; omega
  · rcases List.mem_append.1 hx with hx | hx
    · exact h.short x hx
    · rw [List.mem_singleton.1 hx]; exact hs
/-- The table so far. -/
structure NtAt (l : List MacT) (bm k : Nat) (T : List EntM) (w : World) : Prop where
  tab : TabAt w bm T
  pairs : T.map pairM = l.take k
  uses : ∀ e ∈ T, e.us = usesOf e.val
  zero : ∀ e ∈ T, e.st = 0
  ok : faultF [] (l.take k) = 0
  base : ∀ e ∈ T, bm < e.blk
theorem NtAt.below {l : List MacT} {bm k : Nat} {T : List EntM} {w w' : World} (h : NtAt l bm k T w) (hb : Below w.heap.size w w') : NtAt l bm k T w' := ⟨h.tab.below hb, h.pairs, h.uses, h.zero, h.ok, h.base⟩
theorem NtAt.names {l : List MacT} {bm k : Nat} {T : List EntM} {w : World} (h : NtAt l bm k T w) : namesL (l.take k) = namesT T := by
  unfold namesL namesT
  rw [← h.pairs, List.map_map]
  rfl
theorem good_le {n : List UInt8} (h : goodName n = true) : n.length ≤ 40 := by
  unfold goodName at h
  simp at h
  omega
/-- One more. -/
theorem NtAt.more {l : List MacT} {bm k : Nat} {T : List EntM} {w w1 w2 : World} {x : MacT} {A : Option Addr} {c : Nat} (h : NtAt l bm k T w) (hx : l[k]? = some x) (hg : goodName x.1 = true) (hp : (parseM x.2).2 = true) (hn : x.1 ∉ namesT T)
    (h1 : Below w.heap.size w w1) (h2 : Below w1.heap.size w1 w2) (hs : w.heap.size < w1.heap.size) (ho : w2.ownsRow (w1.heap.size + 1) 9 1 (.slice A (usesOf x.2).length c) (usesOf x.2).length ((usesOf x.2).map sv)) :
    (Instr.mapUpdate 58 (.map (some bm)) (sv x.1) (.pointer (some ⟨w2.heap.size, 0, none⟩))).run Try.prog (w2.alloc (.cells #[sv x.2, .slice A (usesOf x.2).length c, .int .i64 0, .string ⟨#[]⟩, .bool false] 62)) = .ok () (setBlock (w2.alloc (.cells #[sv x.2, .slice A (usesOf x.2).length c, .int .i64 0, .string ⟨#[]⟩, .bool false] 62)) bm (.map (entS (insM T x.1 w2.heap.size)) (insM T x.1 w2.heap.size).length)) ∧
    NtAt l bm (k + 1) (T ++ [⟨w2.heap.size, x.1, x.2, A, c, usesOf x.2, 0, [], false⟩]) (setBlock (w2.alloc (.cells #[sv x.2, .slice A (usesOf x.2).length c, .int .i64 0, .string ⟨#[]⟩, .bool false] 62)) bm (.map (entS (insM T x.1 w2.heap.size)) (insM T x.1 w2.heap.size).length)) := by
  have ht2 := (h.below h1).below h2
  have h40 := good_le hg
  have hrd : Rd w2 A ((usesOf x.2).map sv) := rd_of_ownK ho
  have hsn := ht2.tab.snoc ⟨w2.heap.size, x.1, x.2, A, c, usesOf x.2, 0, [], false⟩ hn h40 rfl hrd (by simp) (fun g o f hA hl y hy => by
    have hy' := (h.tab.blk y hy).lt
    simp only [] at hA hl
    subst hA
    have := (ho.lt g (by rfl)).1
    omega)
  have hlt := ht2.tab.mp.lt
  refine ⟨?_, hsn, ?_, fun e he => ?_, fun e he => ?_, ?_, fun e he => ?_⟩
  · exact run_newS strKindM mapKindM (ht2.tab.below ((Below.refl _ _).alloc (Nat.le_refl _) _)).mp (keysOkT h.tab.k40) x.1 _ (by unfold maxLen; omega) (by rw [keys_tabS]; exact hn)
  · rw [List.map_append, h.pairs, takeS_any hx]
    rfl
  · rcases List.mem_append.1 he with he | he
    · exact h.uses e he
    · rw [List.mem_singleton.1 he]
  · rcases List.mem_append.1 he with he | he
    · exact h.zero e he
    · rw [List.mem_singleton.1 he]
  · exact faultF_take hx h.ok (faultM_zero.2 ⟨hg, hp, by rw [List.nil_append, h.names]; exact hn⟩)
  · rcases List.mem_append.1 he with he | he
    · exact h.base e he
    · rw [List.mem_singleton.1 he]; exact hlt
end Go.Proofs.Ytoandhhkmkgmaaa
