/- A range over the lines of a text: the statement's law, for an iterator that keeps what is left of the text in a variable of its own. No program in sight. -/
import Derived.Test.YtoandhhkmkgmaaaGreatDoorBase
import Derived.RangeFuncNested
import Derived.RangeFuncBound
import Derived.RangeFuncCalls
import Derived.RangeFuncLeaves
import Derived.WalkKit
import Derived.OwnWalkIn
import Derived.TacticsInMore
import Derived.LoopNIn
import Derived.LoopIn
namespace Go.Proofs.YtoandhhkmkgmaaaGreatDoor
open Go.RowKit

/-- The lines of a text, each with its end. -/
def linesL : List UInt8 → List (List UInt8)
  | [] => []
  | x :: r => if x = 10 then [10] :: linesL r else match linesL r with
    | [] => [[x]]
    | p :: q => (x :: p) :: q
/-- All blocks but three lie as they lay. -/
structure But3 (B l D : Nat) (W W' : World) : Prop where
  os : W'.os = W.os
  tape : W'.tape = W.tape
  output : W'.output = W.output
  size : W.heap.size ≤ W'.heap.size
  block : ∀ k, k < W.heap.size → k ≠ B → k ≠ l → k ≠ D → W'.heap[k]? = W.heap[k]?
theorem But3.refl (B l D : Nat) (W : World) : But3 B l D W W := ⟨rfl, rfl, rfl, Nat.le_refl _, fun _ _ _ _ _ => rfl⟩
theorem But3.trans {B l D : Nat} {W W' W2 : World} (h : But3 B l D W W') (k : But3 B l D W' W2) : But3 B l D W W2 :=
  ⟨k.os.trans h.os, k.tape.trans h.tape, k.output.trans h.output, Nat.le_trans h.size k.size, fun j hj h1 h2 h3 => (k.block j (Nat.lt_of_lt_of_le hj h.size) h1 h2 h3).trans (h.block j hj h1 h2 h3)⟩
theorem but3_putObj {B l D : Nat} (W : World) (o : Obj) : But3 B l D W (W.putObj l o) := ⟨rfl, rfl, rfl, by simp, fun _ _ _ h2 _ => World.putObj_heap_other h2⟩
theorem but3_alloc {B l D : Nat} (W : World) (o : Obj) : But3 B l D W (W.alloc o) := ⟨rfl, rfl, rfl, by simp, fun k hk _ _ _ => Below.heap_alloc W o k hk⟩
/-- What all rounds keep: the variable of the iterator, the record, the block of deferred calls. -/
structure Keep3 (B l D : Nat) (W W' : World) : Prop where
  b : W'.heap[B]? = W.heap[B]?
  l : W'.heap[l]? = W.heap[l]?
  d : W'.heap[D]? = W.heap[D]?
theorem Keep3.refl (B l D : Nat) (W : World) : Keep3 B l D W W := ⟨rfl, rfl, rfl⟩
theorem Keep3.trans {B l D : Nat} {W W' W2 : World} (h : Keep3 B l D W W') (k : Keep3 B l D W' W2) : Keep3 B l D W W2 := ⟨k.b.trans h.b, k.l.trans h.l, k.d.trans h.d⟩
/-- A round's end. -/
def linPost (B l D : Nat) (I : World → Prop) (Ix : World → Prop) (W : World) : Exit → Act → World → Prop
  | .normal, _, W' => Keep3 B l D W W' ∧ I W'
  | .ret, _, W' => Keep3 B l D W W' ∧ Ix W'
  | _, _, _ => False
def strV (x : List UInt8) : Value := .string ⟨x.toArray⟩
/-- What the iterator does: it hands over one line after the other; of its own it writes block B alone. -/
def LinesCon (P : Program) (gf B : Nat) (T : TypeId) (n : Nat) (s : List UInt8) : Prop :=
  ∀ (l : Nat) (J : List (List UInt8) → World → Prop) (Jx : World → Prop) (W : World),
    W.heap[B]? = some (.cells #[strV s] T (0, 0)) →
    (∀ ls W1 W2, J ls W1 → But3 B B B W1 W2 → (∃ v, W2.heap[B]? = some (.cells #[v] T (0, 0))) → J ls W2) →
    (∀ ls x W1, J ls W1 → (∃ v, W1.heap[B]? = some (.cells #[v] T (0, 0))) → ls ++ [x] <+: linesL s → YieldAt Fence.wide (n - 1) P l #[strV x] W1 fun e W' =>
      (e = .returned (.bool true) ∧ J (ls ++ [x]) W' ∧ W'.heap[B]? = W1.heap[B]?) ∨ (e = .returned (.bool false) ∧ Jx W')) →
    J [] W →
    CallsIn Fence.wide n P gf #[.func (.yield l) #[] #[], .pointer (some ⟨B, 0, none⟩)] W fun e W' => (∃ v, e = .returned v) ∧ (J (linesL s) W' ∨ Jx W')
theorem wpIn_lines {P : Program} {n : Nat} {g : Operand} {t : Tmp} {assign body : Code} {Q : Exit → Act → World → Prop} {a : Act} {w : World} {gf B : Nat} {T : TypeId} {s : List UInt8}
    (hg : a.eval g = .func (.func gf) #[] #[.pointer (some ⟨B, 0, none⟩)]) (eg : ∀ args w, (callFunc gf args).run P w = .ok (.enter gf args) w) (hcon : LinesCon P gf B T (n - 1) s)
    (hB : w.heap[B]? = some (.cells #[strV s] T (0, 0)))
    (I : List (List UInt8) → World → Prop) (Ix : World → Prop) (hI : ∀ ls W W', I ls W → But3 B (w.heap.size + 1) w.heap.size W W' → I ls W') (hIx : ∀ W W', Ix W → But3 B (w.heap.size + 1) w.heap.size W W' → Ix W') (h0 : I [] w)
    (a₁ : List UInt8 → Act)
    (hassign : ∀ (x : List UInt8) (W : World) (K : Act → World → Prop), K (a₁ x) W → assign.wpIn (Fence.wide.inRound (w.heap.size + 1)) (n - 1 - 1) P (Exit.then K (fun _ _ _ => False)) { tmps := (#[t].zip #[strV x]).foldl (fun tm (p, v) => tm.setIfInBounds p v) a.tmps, defers := [] } W)
    (hbody : ∀ (ls : List (List UInt8)) (x : List UInt8) (W : World), I ls W → ls ++ [x] <+: linesL s → w.heap.size + 2 ≤ W.heap.size → body.wpIn (Fence.wide.inRound (w.heap.size + 1)) (n - 1 - 1) P (linPost B (w.heap.size + 1) w.heap.size (I (ls ++ [x])) Ix W) (a₁ x) W)
    (hdone : ∀ (W : World), I (linesL s) W → W.heap[w.heap.size]? = some (.deferred (some [])) → Q .normal { a with defers := { target := .collected w.heap.size, args := #[] } :: a.defers } W)
    (hstop : ∀ (W : World), Ix W → W.heap[w.heap.size]? = some (.deferred (some [])) → Code.ret.wpIn Fence.wide n P Q { a with defers := { target := .collected w.heap.size, args := #[] } :: a.defers } W) :
    (Code.rangeFunc g #[t] assign body).wpIn Fence.wide n P Q a w := by
  refine wpIn_rangeFunc ?_
  intro fn hfn
  have hBlt : B < w.heap.size := (Array.getElem?_eq_some_iff.1 hB).1
  obtain ⟨rec, hrec⟩ : ∃ rec : LoopState → Option Code → Loop, rec = fun st pe => { state := st, pending := pe, fn, tmps := a.tmps, params := #[t], assign, body, defers := w.heap.size } := ⟨_, rfl⟩
  obtain ⟨W1, hW1⟩ : ∃ W1, (w.alloc (.deferred (some []))).alloc (.loop (rec .ready none)) = W1 := ⟨_, rfl⟩
  have hz1 : W1.heap.size = w.heap.size + 2 := by rw [← hW1]; simp
  have hL1 : W1.heap[w.heap.size + 1]? = some (.loop (rec .ready none)) := by
    rw [← hW1]; have := World.alloc_heap_new (w.alloc (.deferred (some []))) (.loop (rec .ready none)); rwa [World.size_alloc] at this
  have hK1 : W1.heap[w.heap.size]? = some (.deferred (some [])) := by
    rw [← hW1]; exact (Below.heap_alloc _ _ _ (by simp)).trans (World.alloc_heap_new w _)
  have hB1 : W1.heap[B]? = some (.cells #[strV s] T (0, 0)) := by
    rw [← hW1]; exact (Below.heap_alloc _ _ _ (by simp; omega)).trans ((Below.heap_alloc _ _ _ hBlt).trans hB)
  have hI1 : I [] W1 := by rw [← hW1]; exact hI [] _ _ (hI [] _ _ h0 (but3_alloc _ _)) (but3_alloc _ _)
  refine ⟨w.heap.size + 1, [{ target := .collected w.heap.size, args := #[] }], W1, { target := .fn (.func gf) #[.pointer (some ⟨B, 0, none⟩)], args := #[.func (.yield (w.heap.size + 1)) #[] #[]] }, W1, gf,
    #[.func (.yield (w.heap.size + 1)) #[] #[], .pointer (some ⟨B, 0, none⟩)], W1, ?_, ?_, fun _ _ => trivial, ?_, fun h => by simp [Fence.wide] at h, ?_⟩
  · rw [← hW1, hrec]; exact run_enterLoop_outer _ _ _ _ _
  · simp only [resolve, hg]
    simp [go_sem]
  · simp [invoke, go_sem, eg]
  refine (hcon (w.heap.size + 1)
    (fun ls W => I ls W ∧ W.heap[w.heap.size + 1]? = some (.loop (rec .ready none)) ∧ W.heap[w.heap.size]? = some (.deferred (some [])) ∧ w.heap.size + 2 ≤ W.heap.size)
    (fun W => Ix W ∧ W.heap[w.heap.size + 1]? = some (.loop (rec .done (some .ret))) ∧ W.heap[w.heap.size]? = some (.deferred (some [])))
    W1 hB1 (fun ls A C hs hb _ => ⟨hI ls A C hs.1 ⟨hb.os, hb.tape, hb.output, hb.size, fun k hk h1 _ _ => hb.block k hk h1 h1 h1⟩,
      (hb.block _ (by have := hs.2.2.2; omega) (by omega) (by omega) (by omega)).trans hs.2.1, (hb.block _ (by have := hs.2.2.2; omega) (by omega) (by omega) (by omega)).trans hs.2.2.1, Nat.le_trans hs.2.2.2 hb.size⟩)
    ?_ ⟨hI1, hL1, hK1, by omega⟩).mono ?_
  · rintro ls x W ⟨hi, hl, hk, hz⟩ ⟨vB, hvB⟩ hpre
    have hy := run_yield (P := P) (args := #[strV x]) hl (by rw [hrec]; rfl)
    rw [hrec] at hy
    refine ⟨fn, _, assign, body, hy, roundIn_of_wpIn (F := Fence.wide) trivial (hassign x W _ ⟨_, run_beginRound hl (by rw [hrec]), ?_⟩)⟩
    have hl2 : (W.putObj (w.heap.size + 1) (.loop { rec .ready none with state := .busy })).heap[w.heap.size + 1]? = some (.loop { rec .ready none with state := .busy }) := World.putObj_heap_same (by omega)
    have hk2 : (W.putObj (w.heap.size + 1) (.loop { rec .ready none with state := .busy })).heap[w.heap.size]? = some (.deferred (some [])) := (World.putObj_heap_other (by omega)).trans hk
    have hb2 : (W.putObj (w.heap.size + 1) (.loop { rec .ready none with state := .busy })).heap[B]? = W.heap[B]? := World.putObj_heap_other (by omega)
    refine wpIn_mono (hbody ls x _ (hI _ _ _ hi (but3_putObj _ _)) hpre (by simpa using hz)) ?_
    rintro e a3 W3 hp
    cases e with
    | normal =>
      obtain ⟨hk3, hi3⟩ := hp
      have hl3 := hk3.l.trans hl2
      have hr := run_endRound (P := P) none hl3
      have hz3 : w.heap.size + 2 ≤ W3.heap.size := by have := (Array.getElem?_eq_some_iff.1 hl3).1; omega
      refine ⟨_, _, hr, .inl ⟨rfl, ⟨hI _ _ _ hi3 (but3_putObj _ _), ?_, (World.putObj_heap_other (by omega)).trans (hk3.d.trans hk2), by simpa using hz3⟩, (World.putObj_heap_other (by omega)).trans (hk3.b.trans hb2)⟩⟩
      rw [World.putObj_heap_same (by omega), hrec]
      rfl
    | ret =>
      obtain ⟨hk3, hi3⟩ := hp
      have hl3 := hk3.l.trans hl2
      have hr := run_endRound (P := P) (some .ret) hl3
      have hz3 : w.heap.size + 2 ≤ W3.heap.size := by have := (Array.getElem?_eq_some_iff.1 hl3).1; omega
      refine ⟨_, _, hr, .inr ⟨rfl, hIx _ _ hi3 (but3_putObj _ _), ?_, (World.putObj_heap_other (by omega)).trans (hk3.d.trans hk2)⟩⟩
      rw [World.putObj_heap_same (by omega), hrec]
      rfl
    | exit id => exact hp.elim
    | goto u => exact hp.elim
    | panic ch => exact hp.elim
    | outgrown => exact hp.elim
  · rintro e W2 ⟨⟨v, rfl⟩, (⟨hi, hl, hk, _⟩ | ⟨hi, hl, hk⟩)⟩
    · exact ⟨none, _, by have := run_endLoop (P := P) hl (by rw [hrec]; simp); rw [hrec] at this; exact this, hdone _ (hI _ _ _ hi (but3_putObj _ _)) ((World.putObj_heap_other (by omega)).trans hk)⟩
    · exact ⟨some .ret, _, by have := run_endLoop (P := P) hl (by rw [hrec]; simp); rw [hrec] at this; exact this, hstop _ (hIx _ _ hi (but3_putObj _ _)) ((World.putObj_heap_other (by omega)).trans hk)⟩
end Go.Proofs.YtoandhhkmkgmaaaGreatDoor
