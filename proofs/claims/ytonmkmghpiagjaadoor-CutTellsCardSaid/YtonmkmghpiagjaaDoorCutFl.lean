/- Package cut: the flow, and rows of pairs beside it, while the flow is written. No condition. -/
import Derived.Test.YtonmkmghpiagjaaDoorCut2
import Derived.Test.YtonmkmghpiagjaaDoorReach4
import Derived.OneCell
namespace Go.Proofs.YtonmkmghpiagjaaDoor
open Go.RowKit

theorem own_belowA {w w' : World} {B : Nat} {e : TypeId} {sz : Nat} {v : Value} {n : Nat} {xs : List Value} (h : w.ownsRow B e sz v n xs) (hb : Below w.heap.size w w') : w'.ownsRow B e sz v n xs :=
  h.kept (w' := w') (row := none) ⟨hb.os, hb.tape, hb.output, hb.size, fun k hk _ => hb.block k hk⟩ (by
    cases hv : v.ownBlock with
    | none => exact .inl rfl
    | some g => exact .inr (by simp))
theorem iz_set (n i : Nat) (f : Nat → Int) (v : Int) : (((List.range n).map fun x => f x).map iz).set i (iz v) = ((List.range n).map fun x => setF f i v x).map iz := by
  rw [← List.map_set, map_range_set]
  rfl
/-- The flow, and two rows of pairs. -/
structure LR (Wb w : World) (BF bN bA : Nat) (A : Option Addr) (n c a b : Nat) (st : Fl) (F : Option Addr) (cF : Nat) (B2 : Nat) (AA : Option Addr) (na cA : Nat) (xa : List Value) (AD : Option Addr) (nd cD : Nat) (xd : List Value) : Prop where
  fl : FlR w BF bN bA A n c a b st F cF Wb.heap.size
  bel : Below Wb.heap.size Wb w
  ra : w.ownsRow B2 172 2 (.slice AA na cA) na xa
  rd : w.ownsRow B2 172 2 (.slice AD nd cD) nd xd
  lo : BF < B2 ∧ bN < B2 ∧ bA < B2
  dL : ∀ g, ob F = some g → ob AA ≠ some g ∧ ob AD ≠ some g
section
variable {Wb w w' : World} {BF bN bA : Nat} {A : Option Addr} {n c a b : Nat} {st : Fl} {F : Option Addr} {cF : Nat} {B2 : Nat} {AA : Option Addr} {na cA : Nat} {xa : List Value} {AD : Option Addr} {nd cD : Nat} {xd : List Value}
theorem LR.below (h : LR Wb w BF bN bA A n c a b st F cF B2 AA na cA xa AD nd cD xd) (hb : Below w.heap.size w w') : LR Wb w' BF bN bA A n c a b st F cF B2 AA na cA xa AD nd cD xd :=
  ⟨h.fl.below hb, h.bel.trans (hb.mono h.bel.size), own_belowA h.ra hb, own_belowA h.rd hb, h.lo, h.dL⟩
theorem LR.drew (h : LR Wb w BF bN bA A n c a b st F cF B2 AA na cA xa AD nd cD xd) : LR Wb w.drew BF bN bA A n c a b st F cF B2 AA na cA xa AD nd cD xd := h.below (Below.drew (Below.refl _ _))
theorem LR.drawN (h : LR Wb w BF bN bA A n c a b st F cF B2 AA na cA xa AD nd cD xd) (m : Nat) : LR Wb (w.drewN m) BF bN bA A n c a b st F cF B2 AA na cA xa AD nd cD xd := h.below (below_of_drewN w m)
theorem LR.neA (h : LR Wb w BF bN bA A n c a b st F cF B2 AA na cA xa AD nd cD xd) {g : Nat} (hg : g < B2) : (Value.slice AA na cA).ownBlock ≠ some g := fun e => by
  have := (h.ra.lt g e).1
  omega
theorem LR.neD (h : LR Wb w BF bN bA A n c a b st F cF B2 AA na cA xa AD nd cD xd) {g : Nat} (hg : g < B2) : (Value.slice AD nd cD).ownBlock ≠ some g := fun e => by
  have := (h.rd.lt g e).1
  omega
theorem LR.setNx (h : LR Wb w BF bN bA A n c a b st F cF B2 AA na cA xa AD nd cD xd) (i : Nat) (v : Int) : LR Wb (w.setCell ⟨bN, i, none⟩ (.int .i64 v)) BF bN bA A n c a b ⟨setF st.nx i v, st.ah, st.fs⟩ F cF B2 AA na cA xa AD nd cD xd := by
  refine ⟨⟨h.fl.box.other h.fl.dW.1 _, ?_, ?_, ?_, h.fl.dW, h.fl.dF, h.fl.low⟩, h.bel.setCell (p := ⟨bN, i, none⟩) (own_ob h.fl.nx rfl).1 _, ownsRow_setCell_other h.ra (h.neA h.lo.2.1) _, ownsRow_setCell_other h.rd (h.neD h.lo.2.1) _, h.lo, h.dL⟩
  · have h1 := (h.fl.nx.stored i (iz v)).1
    rw [iz_set] at h1
    exact h1
  · exact ownsRow_setCell_other h.fl.ah (by rw [ob_own]; intro e; injection e with e; exact h.fl.dW.2.2 e.symm) _
  · exact ownsRow_setCell_other h.fl.fs (by rw [ob_own]; intro e; exact (h.fl.dF _ e).2.1 rfl) _
theorem LR.setAh (h : LR Wb w BF bN bA A n c a b st F cF B2 AA na cA xa AD nd cD xd) (i : Nat) (v : Int) : LR Wb (w.setCell ⟨bA, i, none⟩ (.int .i64 v)) BF bN bA A n c a b ⟨st.nx, setF st.ah i v, st.fs⟩ F cF B2 AA na cA xa AD nd cD xd := by
  refine ⟨⟨h.fl.box.other h.fl.dW.2.1 _, ?_, ?_, ?_, h.fl.dW, h.fl.dF, h.fl.low⟩, h.bel.setCell (p := ⟨bA, i, none⟩) (own_ob h.fl.ah rfl).1 _, ownsRow_setCell_other h.ra (h.neA h.lo.2.2) _, ownsRow_setCell_other h.rd (h.neD h.lo.2.2) _, h.lo, h.dL⟩
  · exact ownsRow_setCell_other h.fl.nx (by rw [ob_own]; intro e; injection e with e; exact h.fl.dW.2.2 e) _
  · have h1 := (h.fl.ah.stored i (iz v)).1
    rw [iz_set] at h1
    exact h1
  · exact ownsRow_setCell_other h.fl.fs (by rw [ob_own]; intro e; exact (h.fl.dF _ e).2.2 rfl) _
theorem LR.boxG (h : LR Wb w BF bN bA A n c a b st F cF B2 AA na cA xa AD nd cD xd) (hg : w.grownBy w' (Value.slice F st.fs.length cF).ownBlock) : Blk w' BF 100 [.slice A n c, .int .i64 (a : Int), .int .i64 (b : Int), .slice (some ⟨bN, 0, none⟩) n n, .slice (some ⟨bA, 0, none⟩) n n, .slice F st.fs.length cF] := by
  rw [ob_own] at hg
  unfold Blk
  rw [hg.block BF h.fl.lts.1 (fun e => (h.fl.dF _ e.symm).1 rfl)]
  exact h.fl.box
theorem LR.pushF (h : LR Wb w BF bN bA A n c a b st F cF B2 AA na cA xa AD nd cD xd) {g c' k : Nat} (hown : w'.ownsRow Wb.heap.size 3 1 (.slice (some ⟨g, 0, none⟩) (st.fs.length + 1) c') (st.fs.length + 1) (st.fs.map nv ++ [nv k]))
    (hg : w.grownBy w' (Value.slice F st.fs.length cF).ownBlock) (hat : (Value.slice F st.fs.length cF).ownBlock = some g ∨ w.heap.size ≤ g) :
    LR Wb (w'.setCell ⟨BF, 5, none⟩ (.slice (some ⟨g, 0, none⟩) (st.fs.length + 1) c')) BF bN bA A n c a b ⟨st.nx, st.ah, st.fs ++ [k]⟩ (some ⟨g, 0, none⟩) c' B2 AA na cA xa AD nd cD xd := by
  rw [ob_own] at hg hat
  obtain ⟨l1, l2, l3, l4⟩ := h.fl.lts
  have hgn : g ≠ BF ∧ g ≠ bN ∧ g ≠ bA := by
    rcases hat with e | e
    · exact h.fl.dF g e
    · exact ⟨by omega, by omega, by omega⟩
  have hk1 : ∀ x, x < w.heap.size → ob F ≠ some x → w'.heap[x]? = w.heap[x]? := fun x hx hne => hg.block x hx (fun e => hne e.symm)
  have hbox : Blk w' BF 100 [.slice A n c, .int .i64 (a : Int), .int .i64 (b : Int), .slice (some ⟨bN, 0, none⟩) n n, .slice (some ⟨bA, 0, none⟩) n n, .slice F st.fs.length cF] := by
    unfold Blk
    rw [hk1 BF l1 (fun e => (h.fl.dF _ e).1 rfl)]
    exact h.fl.box
  have hl : (st.fs ++ [k]).length = st.fs.length + 1 := by simp
  refine ⟨⟨?_, ?_, ?_, ?_, h.fl.dW, fun g' hg' => ?_, h.fl.low⟩, ?_, ?_, ?_, h.lo, fun g' hg' => ?_⟩
  · have := hbox.same 5 (.slice (some ⟨g, 0, none⟩) (st.fs.length + 1) c')
    rw [hl]
    exact this
  · exact ownsRow_setCell_other (h.fl.nx.kept hg (by rw [ob_own]; exact .inr (fun e => (h.fl.dF _ e.symm).2.1 rfl))) (by rw [ob_own]; intro e; injection e with e; exact h.fl.dW.1 e.symm) _
  · exact ownsRow_setCell_other (h.fl.ah.kept hg (by rw [ob_own]; exact .inr (fun e => (h.fl.dF _ e.symm).2.2 rfl))) (by rw [ob_own]; intro e; injection e with e; exact h.fl.dW.2.1 e.symm) _
  · rw [hl, List.map_append]
    exact ownsRow_setCell_other hown (by rw [ob_own]; intro e; injection e with e; exact hgn.1 e) _
  · injection hg' with hg'
    have e : g = g' := hg'
    rw [← e]
    exact hgn
  · exact (h.bel.grown hg h.bel.size (fun x hx => (own_ob h.fl.fs hx).1)).setCell (p := ⟨BF, 5, none⟩) h.fl.low _
  · refine ownsRow_setCell_other (h.ra.kept hg ?_) (h.neA h.lo.1) _
    cases hx : ob AA with
    | none => exact .inl (by rw [ob_own]; exact hx)
    | some x => exact .inr (by rw [ob_own, hx]; exact fun e => (h.dL x e.symm).1 hx)
  · refine ownsRow_setCell_other (h.rd.kept hg ?_) (h.neD h.lo.1) _
    cases hx : ob AD with
    | none => exact .inl (by rw [ob_own]; exact hx)
    | some x => exact .inr (by rw [ob_own, hx]; exact fun e => (h.dL x e.symm).2 hx)
  · injection hg' with hg'
    have e : g = g' := hg'
    rw [← e]
    rcases hat with e2 | e2
    · exact h.dL g e2
    · exact ⟨fun e3 => by have := (h.ra.lt g (by rw [ob_own]; exact e3)).2; omega, fun e3 => by have := (h.rd.lt g (by rw [ob_own]; exact e3)).2; omega⟩
end
theorem addF_len (a b : Nat) : ∀ (L : List (Nat × Nat)) (st : Fl), (L.foldl (addF a b) st).fs.length ≤ st.fs.length + L.length
  | L, st => by
    rw [adds_fs, List.length_append, List.length_map]
    have := List.length_filter_le (fun d => decide (d.1 = a)) L
    omega
theorem fs_len {l : List Nat} {a b : Nat} {st : Fl} (hg : Good l) (hf : FInv l a b st) : st.fs.length ≤ l.length := by
  have := pig2 st.fs (List.range l.length) hf.fsn (fun x hx => by
    have h := hf.fsv x hx
    rcases (hf.ah_cases h).2.2 with ⟨_, _, h3⟩ | ⟨h3, _⟩
    · exact List.mem_range.2 (hg.2 _ _ h3)
    · exact absurd rfl h3)
  rw [List.length_range] at this
  exact this
theorem pairs_in {l : List Nat} {a b : Nat} {st : Fl} {p : List Spt} {n : Nat} (h : SWalk l a b st p) (hp : ∀ s ∈ p, s.1 < n) : (∀ d ∈ pairsL addO p (p.length - 1), d.1 < n ∧ d.2 < n) ∧ ∀ d ∈ pairsL dropO p (p.length - 1), d.1 < n ∧ d.2 < n := by
  refine ⟨fun d hd => ?_, fun d hd => ?_⟩
  · obtain ⟨i, h1, h2, _⟩ := (adds_iff h).1 (show (d.1, d.2) ∈ _ from hd)
    exact ⟨hp _ (List.mem_of_getElem? h1), hp _ (List.mem_of_getElem? h2)⟩
  · obtain ⟨i, h1, h2, _⟩ := (drops_iff h).1 (show (d.1, d.2) ∈ _ from hd)
    exact ⟨hp _ (List.mem_of_getElem? h2), hp _ (List.mem_of_getElem? h1)⟩
theorem fold_next {α β : Type} (f : β → α → β) (x : β) (L : List α) {k : Nat} {d : α} (h : L[k]? = some d) : (L.take (k + 1)).foldl f x = f ((L.take k).foldl f x) d := by
  rw [List.take_add_one, List.foldl_append, h]
  rfl
theorem aug_end {l : List Nat} {a b : Nat} {st : Fl} {p : List Spt} (h : SWalk l a b st p) (hf : FInv l a b st) : FInv l a b (augF a b st p) ∧ (augF a b st p).fs.length = st.fs.length + 1 := by
  refine ⟨aug_inv h hf (aug_ok h), ?_⟩
  obtain ⟨k, _, hk⟩ := (aug_ok h).f1
  rw [hk]
  simp
end Go.Proofs.YtonmkmghpiagjaaDoor
