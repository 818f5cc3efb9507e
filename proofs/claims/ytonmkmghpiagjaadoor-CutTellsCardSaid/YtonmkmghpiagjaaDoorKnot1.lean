/- Package knot: how the walker lies in memory, and what a walk leaves alone. No condition. -/
import Derived.Test.YtonmkmghpiagjaaDoorKnotPlain2
import Derived.Test.YtonmkmghpiagjaaDoorOwn2
import Derived.OneCell
import Derived.Maps.AppendAt
import Derived.Lib.SliceRun
namespace Go.Proofs.YtonmkmghpiagjaaDoor
open Go.RowKit

/-- A block that is known whole, none of it frozen. -/
def Blk (w : World) (b : Nat) (t : TypeId) (vs : List Value) : Prop := w.heap[b]? = some (.cells vs.toArray t (0, 0))
section
variable {w w' : World} {b : Nat} {t : TypeId} {vs : List Value}
theorem Blk.cell (h : Blk w b t vs) {j : Nat} {v : Value} (hj : vs[j]? = some v) : w.cell? ⟨b, j, none⟩ = some v := by
  unfold Blk at h
  simp [World.cell?, h, hj]
theorem Blk.free (h : Blk w b t vs) (j : Nat) : w.frozen? ⟨b, j, none⟩ = false := by
  unfold Blk at h
  simp [World.frozen?, h]
theorem Blk.lt (h : Blk w b t vs) : b < w.heap.size := lt_of_block h
theorem Blk.other (h : Blk w b t vs) {a : Addr} (hne : b ≠ a.block) (u : Value) : Blk (w.setCell a u) b t vs := by
  unfold Blk
  rw [Below.heap_setCell _ _ _ _ hne]
  exact h
theorem Blk.same (h : Blk w b t vs) (j : Nat) (u : Value) : Blk (w.setCell ⟨b, j, none⟩ u) b t (vs.set j u) := by
  unfold Blk
  rw [heap_setCell_same w b j vs.toArray t u h]
  simp
theorem Blk.below {B : Nat} (h : Blk w b t vs) (hb : Below B w w') (hB : b < B) : Blk w' b t vs := by
  unfold Blk
  rw [hb.block b hB]
  exact h
theorem Blk.new (w : World) (cs : Array Value) (t : TypeId) : Blk (w.alloc (.cells cs t)) w.heap.size t cs.toList := by
  unfold Blk
  rw [heap_alloc_new, Array.toArray_toList]
end
/-- The block of a slice. -/
def ob : Option Addr → Option Nat
  | some a => some a.block
  | none => none
theorem ob_own (A : Option Addr) (n c : Nat) : (Value.slice A n c).ownBlock = ob A := by cases A <;> rfl
theorem own_ob {w : World} {B : Nat} {e : TypeId} {A : Option Addr} {n c : Nat} {xs : List Value} (h : w.ownsRow B e 1 (.slice A n c) n xs) {g : Nat} (hg : ob A = some g) : B ≤ g ∧ g < w.heap.size := h.lt g (by rw [ob_own]; exact hg)
theorem own_same {w w' : World} {B : Nat} {e : TypeId} {A : Option Addr} {n c : Nat} {xs : List Value} (h : w.ownsRow B e 1 (.slice A n c) n xs) (hs : ∀ g, ob A = some g → w'.heap[g]? = w.heap[g]?) : w'.ownsRow B e 1 (.slice A n c) n xs := by
  refine ⟨h.1, ?_⟩
  rcases h.2 with h' | ⟨g, cap, cur, h1, h2, h3, h4⟩
  · exact .inl h'
  · have hA : ob A = some g := by rw [← ob_own A n c, h1]; rfl
    exact .inr ⟨g, cap, cur, h1, h2, by rw [hs g hA]; exact h3, h4⟩
/-- A slice of the call's own, cut short. -/
theorem own_cut {w : World} {B : Nat} {e : TypeId} {A : Option Addr} {n c : Nat} {xs : List Value} (h : w.ownsRow B e 1 (.slice A n c) n xs) {m : Nat} (hm : m ≤ n) (hA : A ≠ none) : w.ownsRow B e 1 (.slice A m c) m (xs.take m) := by
  have hl := own_len h
  refine ⟨by rw [List.length_take]; omega, ?_⟩
  rcases h.2 with ⟨h', _⟩ | ⟨g, cap, cur, h1, h2, h3, h4, h5, h6, h7⟩
  · injection h' with h' _ _
    exact absurd h' hA
  · injection h1 with h1 _ hc
    subst hc
    subst h1
    refine .inr ⟨g, c, cur, rfl, h2, h3, by omega, h5, h6, ?_⟩
    rw [Nat.mul_one] at h7 ⊢
    rw [← h7, List.take_take, Nat.min_eq_left hm]
/-- How the walker lies: its box, the rows met and low, its stack, what it has found. -/
structure KR (W0 w : World) (B BW bM bL : Nat) (bx : List Value) (n : Nat) (ms ls : List Value) (S : Option Addr) (k cS : Nat) (ss : List Value) (O : Option Addr) (q cO : Nat) (os : List Value) : Prop where
  bel : Below B W0 w
  box : Blk w BW 167 bx
  met : w.ownsRow B 3 1 (.slice (some ⟨bM, 0, none⟩) n n) n ms
  low : w.ownsRow B 3 1 (.slice (some ⟨bL, 0, none⟩) n n) n ls
  stk : w.ownsRow B 3 1 (.slice S k cS) k ss
  out : w.ownsRow B 23 1 (.slice O q cO) q os
  nW : B ≤ BW
  d1 : BW ≠ bM
  d2 : BW ≠ bL
  d3 : bM ≠ bL
  dS : ∀ g, ob S = some g → g ≠ BW ∧ g ≠ bM ∧ g ≠ bL ∧ ob O ≠ some g
  dO : ∀ g, ob O = some g → g ≠ BW ∧ g ≠ bM ∧ g ≠ bL ∧ ob S ≠ some g
structure KF (BW bM bL : Nat) (w w' : World) (S O S' O' : Option Addr) : Prop where
  size : w.heap.size ≤ w'.heap.size
  blk : ∀ b, b < w.heap.size → b ≠ BW → b ≠ bM → b ≠ bL → ob S ≠ some b → ob O ≠ some b → w'.heap[b]? = w.heap[b]?
  ns : ob S' = ob S ∨ ∃ g, ob S' = some g ∧ w.heap.size ≤ g
  no : ob O' = ob O ∨ ∃ g, ob O' = some g ∧ w.heap.size ≤ g
section
variable {BW bM bL : Nat} {w w1 w2 : World} {S O S' O' S2 O2 : Option Addr}
theorem KF.refl (BW bM bL : Nat) (w : World) (S O : Option Addr) : KF BW bM bL w w S O S O := ⟨Nat.le_refl _, fun _ _ _ _ _ _ _ => rfl, .inl rfl, .inl rfl⟩
theorem KF.trans (h1 : KF BW bM bL w w1 S O S' O') (h2 : KF BW bM bL w1 w2 S' O' S2 O2) : KF BW bM bL w w2 S O S2 O2 := by
  have hz1 := h1.size
  have hz2 := h2.size
  refine ⟨by omega, fun b hb e1 e2 e3 e4 e5 => ?_, ?_, ?_⟩
  · rw [h2.blk b (by omega) e1 e2 e3 (fun hc => ?_) (fun hc => ?_)]
    · exact h1.blk b hb e1 e2 e3 e4 e5
    · rcases h1.ns with h | ⟨g, hg, hle⟩
      · rw [h] at hc; exact e4 hc
      · rw [hg] at hc; injection hc with hc; omega
    · rcases h1.no with h | ⟨g, hg, hle⟩
      · rw [h] at hc; exact e5 hc
      · rw [hg] at hc; injection hc with hc; omega
  · rcases h2.ns with h | ⟨g, hg, hle⟩
    · rw [h]; exact h1.ns
    · exact .inr ⟨g, hg, by omega⟩
  · rcases h2.no with h | ⟨g, hg, hle⟩
    · rw [h]; exact h1.no
    · exact .inr ⟨g, hg, by omega⟩
theorem KF.below (hb : Below w.heap.size w w1) : KF BW bM bL w w1 S O S O := ⟨hb.size, fun b h _ _ _ _ _ => hb.block b h, .inl rfl, .inl rfl⟩
theorem KF.setBox (j : Nat) (u : Value) : KF BW bM bL w (w.setCell ⟨BW, j, none⟩ u) S O S O :=
  ⟨by simp, fun b _ e1 _ _ _ _ => Below.heap_setCell _ _ _ _ e1, .inl rfl, .inl rfl⟩
theorem KF.setMet (j : Nat) (u : Value) : KF BW bM bL w (w.setCell ⟨bM, j, none⟩ u) S O S O :=
  ⟨by simp, fun b _ _ e1 _ _ _ => Below.heap_setCell _ _ _ _ e1, .inl rfl, .inl rfl⟩
theorem KF.setLow (j : Nat) (u : Value) : KF BW bM bL w (w.setCell ⟨bL, j, none⟩ u) S O S O :=
  ⟨by simp, fun b _ _ _ e1 _ _ => Below.heap_setCell _ _ _ _ e1, .inl rfl, .inl rfl⟩
theorem KF.draw (k : Nat) (h : KF BW bM bL w w1 S O S' O') : KF BW bM bL w (w1.drewN k) S O S' O' := ⟨h.size, h.blk, h.ns, h.no⟩
theorem KF.drew (h : KF BW bM bL w w1 S O S' O') : KF BW bM bL w w1.drew S O S' O' := ⟨h.size, h.blk, h.ns, h.no⟩
theorem KF.pushS {k c c' : Nat} (hg : w.grownBy w1 (Value.slice S k c).ownBlock) (hn : (Value.slice S' (k + 1) c').ownBlock = (Value.slice S k c).ownBlock ∨ (Value.slice S' (k + 1) c').ownBlock = some w.heap.size) : KF BW bM bL w w1 S O S' O := by
  rw [ob_own] at hg hn
  rw [ob_own] at hn
  refine ⟨hg.size, fun b h _ _ _ e _ => hg.block b h (fun he => e he.symm), ?_, .inl rfl⟩
  rcases hn with h | h
  · exact .inl h
  · exact .inr ⟨_, h, Nat.le_refl _⟩
theorem KF.pushO {k c c' : Nat} (hg : w.grownBy w1 (Value.slice O k c).ownBlock) (hn : (Value.slice O' (k + 1) c').ownBlock = (Value.slice O k c).ownBlock ∨ (Value.slice O' (k + 1) c').ownBlock = some w.heap.size) : KF BW bM bL w w1 S O S O' := by
  rw [ob_own] at hg hn
  rw [ob_own] at hn
  refine ⟨hg.size, fun b h _ _ _ _ e => hg.block b h (fun he => e he.symm), .inl rfl, ?_⟩
  rcases hn with h | h
  · exact .inl h
  · exact .inr ⟨_, h, Nat.le_refl _⟩
end
section
variable {W0 w w' : World} {B BW bM bL : Nat} {bx : List Value} {n : Nat} {ms ls : List Value} {S : Option Addr} {k cS : Nat} {ss : List Value} {O : Option Addr} {q cO : Nat} {os : List Value}
theorem KR.lts (h : KR W0 w B BW bM bL bx n ms ls S k cS ss O q cO os) : BW < w.heap.size ∧ bM < w.heap.size ∧ bL < w.heap.size ∧ (∀ g, ob S = some g → g < w.heap.size) ∧ (∀ g, ob O = some g → g < w.heap.size) :=
  ⟨h.box.lt, (own_ob h.met rfl).2, (own_ob h.low rfl).2, fun _ hg => (own_ob h.stk hg).2, fun _ hg => (own_ob h.out hg).2⟩
/-- The world has only grown. -/
theorem KR.below (h : KR W0 w B BW bM bL bx n ms ls S k cS ss O q cO os) (hb : Below w.heap.size w w') : KR W0 w' B BW bM bL bx n ms ls S k cS ss O q cO os := by
  have h1 := h.lts
  have hW := h.nW
  refine ⟨h.bel.trans (hb.mono (by omega)), h.box.below hb h1.1, own_below h.met hb, own_below h.low hb, own_below h.stk hb, own_below h.out hb, h.nW, h.d1, h.d2, h.d3, h.dS, h.dO⟩
theorem KR.drawN (h : KR W0 w B BW bM bL bx n ms ls S k cS ss O q cO os) (m : Nat) : KR W0 (w.drewN m) B BW bM bL bx n ms ls S k cS ss O q cO os := h.below (below_of_drewN w m)
theorem KR.drew (h : KR W0 w B BW bM bL bx n ms ls S k cS ss O q cO os) : KR W0 w.drew B BW bM bL bx n ms ls S k cS ss O q cO os := h.below (Below.drew (Below.refl _ _))
theorem KR.setBox (h : KR W0 w B BW bM bL bx n ms ls S k cS ss O q cO os) (j : Nat) (u : Value) : KR W0 (w.setCell ⟨BW, j, none⟩ u) B BW bM bL (bx.set j u) n ms ls S k cS ss O q cO os :=
  ⟨h.bel.setCell h.nW u, h.box.same j u, ownsRow_setCell_other h.met (by rw [ob_own]; intro e; injection e with e; exact h.d1 e.symm) u, ownsRow_setCell_other h.low (by rw [ob_own]; intro e; injection e with e; exact h.d2 e.symm) u,
    ownsRow_setCell_other h.stk (by rw [ob_own]; intro e; exact (h.dS _ e).1 rfl) u, ownsRow_setCell_other h.out (by rw [ob_own]; intro e; exact (h.dO _ e).1 rfl) u, h.nW, h.d1, h.d2, h.d3, h.dS, h.dO⟩
theorem KR.setMet (h : KR W0 w B BW bM bL bx n ms ls S k cS ss O q cO os) (j : Nat) (u : Value) : KR W0 (w.setCell ⟨bM, j, none⟩ u) B BW bM bL bx n (ms.set j u) ls S k cS ss O q cO os :=
  ⟨h.bel.setCell (p := ⟨bM, j, none⟩) (own_ob h.met rfl).1 u, h.box.other h.d1 u, (h.met.stored j u).1, ownsRow_setCell_other h.low (by rw [ob_own]; intro e; injection e with e; exact h.d3 e.symm) u,
    ownsRow_setCell_other h.stk (by rw [ob_own]; intro e; exact (h.dS _ e).2.1 rfl) u, ownsRow_setCell_other h.out (by rw [ob_own]; intro e; exact (h.dO _ e).2.1 rfl) u, h.nW, h.d1, h.d2, h.d3, h.dS, h.dO⟩
theorem KR.setLow (h : KR W0 w B BW bM bL bx n ms ls S k cS ss O q cO os) (j : Nat) (u : Value) : KR W0 (w.setCell ⟨bL, j, none⟩ u) B BW bM bL bx n ms (ls.set j u) S k cS ss O q cO os :=
  ⟨h.bel.setCell (p := ⟨bL, j, none⟩) (own_ob h.low rfl).1 u, h.box.other h.d2 u, ownsRow_setCell_other h.met (by rw [ob_own]; intro e; injection e with e; exact h.d3 e) u, (h.low.stored j u).1,
    ownsRow_setCell_other h.stk (by rw [ob_own]; intro e; exact (h.dS _ e).2.2.1 rfl) u, ownsRow_setCell_other h.out (by rw [ob_own]; intro e; exact (h.dO _ e).2.2.1 rfl) u, h.nW, h.d1, h.d2, h.d3, h.dS, h.dO⟩
theorem grown_below {row : Option Nat} (hg : w.grownBy w' row) (hr : ∀ g, row = some g → B ≤ g) (hB : B ≤ w.heap.size) : Below B w w' := (Below.refl B w).grown hg hB hr
theorem KR.pushS (h : KR W0 w B BW bM bL bx n ms ls S k cS ss O q cO os) {S' : Option Addr} {c' : Nat} {ss' : List Value} (hown : w'.ownsRow B 3 1 (.slice S' (k + 1) c') (k + 1) ss') (hg : w.grownBy w' (Value.slice S k cS).ownBlock)
    (hn : (Value.slice S' (k + 1) c').ownBlock = (Value.slice S k cS).ownBlock ∨ (Value.slice S' (k + 1) c').ownBlock = some w.heap.size) : KR W0 w' B BW bM bL bx n ms ls S' (k + 1) c' ss' O q cO os := by
  rw [ob_own] at hg hn
  rw [ob_own] at hn
  obtain ⟨l1, l2, l3, l4, l5⟩ := h.lts
  have hW := h.nW
  have keep : ∀ b, b < w.heap.size → ob S ≠ some b → w'.heap[b]? = w.heap[b]? := fun b hb hne => hg.block b hb (fun e => hne e.symm)
  have nS : ∀ b, b < w.heap.size → ob S ≠ some b → ob S' ≠ some b := fun b hb hne e => by
    rcases hn with h1 | h1
    · rw [h1] at e; exact hne e
    · rw [h1] at e; injection e with e; omega
  have nW : ob S ≠ some BW := fun e => (h.dS _ e).1 rfl
  have nM : ob S ≠ some bM := fun e => (h.dS _ e).2.1 rfl
  have nL : ob S ≠ some bL := fun e => (h.dS _ e).2.2.1 rfl
  have nO : ∀ g, ob O = some g → ob S ≠ some g := fun g hg' => (h.dO g hg').2.2.2
  refine ⟨h.bel.trans (grown_below hg (fun g hg' => (own_ob h.stk hg').1) (by omega)), ?_, own_same h.met (fun g hg' => ?_), own_same h.low (fun g hg' => ?_), hown, own_same h.out (fun g hg' => keep g (l5 g hg') (nO g hg')), h.nW, h.d1, h.d2, h.d3, fun g hg' => ?_, fun g hg' => ?_⟩
  · unfold Blk
    rw [keep BW l1 nW]
    exact h.box
  · injection hg' with hg'; subst hg'; exact keep bM l2 nM
  · injection hg' with hg'; subst hg'; exact keep bL l3 nL
  · refine ⟨fun e => nS BW l1 nW (by rw [← e]; exact hg'), fun e => nS bM l2 nM (by rw [← e]; exact hg'), fun e => nS bL l3 nL (by rw [← e]; exact hg'), fun e => nS g (l5 g e) (nO g e) hg'⟩
  · exact ⟨(h.dO g hg').1, (h.dO g hg').2.1, (h.dO g hg').2.2.1, nS g (l5 g hg') (nO g hg')⟩
theorem KR.pushO (h : KR W0 w B BW bM bL bx n ms ls S k cS ss O q cO os) {O' : Option Addr} {c' : Nat} {os' : List Value} (hown : w'.ownsRow B 23 1 (.slice O' (q + 1) c') (q + 1) os') (hg : w.grownBy w' (Value.slice O q cO).ownBlock)
    (hn : (Value.slice O' (q + 1) c').ownBlock = (Value.slice O q cO).ownBlock ∨ (Value.slice O' (q + 1) c').ownBlock = some w.heap.size) : KR W0 w' B BW bM bL bx n ms ls S k cS ss O' (q + 1) c' os' := by
  rw [ob_own] at hg hn
  rw [ob_own] at hn
  obtain ⟨l1, l2, l3, l4, l5⟩ := h.lts
  have hW := h.nW
  have keep : ∀ b, b < w.heap.size → ob O ≠ some b → w'.heap[b]? = w.heap[b]? := fun b hb hne => hg.block b hb (fun e => hne e.symm)
  have nS : ∀ b, b < w.heap.size → ob O ≠ some b → ob O' ≠ some b := fun b hb hne e => by
    rcases hn with h1 | h1
    · rw [h1] at e; exact hne e
    · rw [h1] at e; injection e with e; omega
  have nW : ob O ≠ some BW := fun e => (h.dO _ e).1 rfl
  have nM : ob O ≠ some bM := fun e => (h.dO _ e).2.1 rfl
  have nL : ob O ≠ some bL := fun e => (h.dO _ e).2.2.1 rfl
  have nO : ∀ g, ob S = some g → ob O ≠ some g := fun g hg' => (h.dS g hg').2.2.2
  refine ⟨h.bel.trans (grown_below hg (fun g hg' => (own_ob h.out hg').1) (by omega)), ?_, own_same h.met (fun g hg' => ?_), own_same h.low (fun g hg' => ?_), own_same h.stk (fun g hg' => keep g (l4 g hg') (nO g hg')), hown, h.nW, h.d1, h.d2, h.d3, fun g hg' => ?_, fun g hg' => ?_⟩
  · unfold Blk
    rw [keep BW l1 nW]
    exact h.box
  · injection hg' with hg'; subst hg'; exact keep bM l2 nM
  · injection hg' with hg'; subst hg'; exact keep bL l3 nL
  · exact ⟨(h.dS g hg').1, (h.dS g hg').2.1, (h.dS g hg').2.2.1, nS g (l4 g hg') (nO g hg')⟩
  · refine ⟨fun e => nS BW l1 nW (by rw [← e]; exact hg'), fun e => nS bM l2 nM (by rw [← e]; exact hg'), fun e => nS bL l3 nL (by rw [← e]; exact hg'), fun e => nS g (l4 g e) (nO g e) hg'⟩
theorem KR.cutS (h : KR W0 w B BW bM bL bx n ms ls S k cS ss O q cO os) {m : Nat} (hm : m ≤ k) (hS : S ≠ none) : KR W0 w B BW bM bL bx n ms ls S m cS (ss.take m) O q cO os :=
  ⟨h.bel, h.box, h.met, h.low, own_cut h.stk hm hS, h.out, h.nW, h.d1, h.d2, h.d3, h.dS, h.dO⟩
/-- A list of another's lies as it lay. -/
theorem own_kf {S' O' A : Option Addr} {Bk : Nat} {e : TypeId} {m c : Nat} {xs : List Value} (hk : w.ownsRow Bk e 1 (.slice A m c) m xs) (hf : KF BW bM bL w w' S O S' O') (hne : ∀ g, ob A = some g → g ≠ BW ∧ g ≠ bM ∧ g ≠ bL ∧ ob S ≠ some g ∧ ob O ≠ some g) :
    w'.ownsRow Bk e 1 (.slice A m c) m xs :=
  own_same hk fun g hg => hf.blk g (own_ob hk hg).2 (hne g hg).1 (hne g hg).2.1 (hne g hg).2.2.1 (hne g hg).2.2.2.1 (hne g hg).2.2.2.2
end
/-- 'append(s, u)' with the word which block it lies in. -/
theorem wpList_pushAt {P : Program} {ops : Array Oper} {rest : List Oper} {o : Oper} {a : Act} {Q : Exit → Act → World → Prop} {t e : TypeId} {z : Value} {bytes : Nat} (T : ElT P t e z bytes) (wr : World) (s x : Operand) (B : Nat) (A : Option Addr) (n c : Nat) (xs : List Value) (u : Value)
    (hown : wr.ownsRow B e 1 (.slice A n c) n xs) (hu : u.oneCell' = true) (hB : B ≤ wr.heap.size) (hn : (n + 1) * bytes ≤ 140737488355328) (hn' : n + 1 ≤ 140737488355328)
    (hgd : o.guard = none) (ho : o.op = .call { callee := .builtin .append, args := #[s, x], argTypes := #[t, t] })
    (hs : a.eval s = .slice A n c) (hx : a.eval x = .slice (some ⟨wr.heap.size, 0, none⟩) 1 1)
    (h : ∀ A' c' w', w'.ownsRow B e 1 (.slice A' (n + 1) c') (n + 1) (xs ++ [u]) → (wr.alloc (.cells #[u] e)).grownBy w' (Value.slice A n c).ownBlock →
      ((Value.slice A' (n + 1) c').ownBlock = (Value.slice A n c).ownBlock ∨ (Value.slice A' (n + 1) c').ownBlock = some (wr.alloc (.cells #[u] e)).heap.size) → wpList P ops Q rest (a.put o.dst (.slice A' (n + 1) c')) w') :
    wpList P ops Q (o :: rest) a (wr.alloc (.cells #[u] e)) := by
  obtain ⟨ht, i, hi, hz, h1, hb, hzs⟩ := T
  have hB' : B ≤ (wr.alloc (.cells #[u] e)).heap.size := by simp; omega
  refine Go.wpList_append_own_at _ hgd s x t ho B e i z 1 bytes ht hi hz h1 hb hzs (by decide) _ n xs hs (hown.alloc _) ⟨wr.heap.size, 0, none⟩ 1 1 [u] hx rfl ?_ ?_ (by unfold maxLen; omega) hn hB' ?_
  · exact cell_one_new _ _ _
  · intro y hy
    rw [List.mem_singleton] at hy
    subst hy
    exact hu
  · intro v' w' hown' hg _ hor
    obtain ⟨A', c', rfl⟩ := own_form hown'
    exact h A' c' w' hown' hg hor
end Go.Proofs.YtonmkmghpiagjaaDoor
