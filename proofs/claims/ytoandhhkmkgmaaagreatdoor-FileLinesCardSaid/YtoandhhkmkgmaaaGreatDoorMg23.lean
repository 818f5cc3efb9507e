/- All blocks below a mark but one lie as they lay; rows of the call's own behind the mark. -/
import Derived.Test.YtoandhhkmkgmaaaGreatDoorMg5
import Derived.Maps.AppendAt
namespace Go.Proofs.YtoandhhkmkgmaaaGreatDoor
open Go.RowKit

/-- All blocks below lo, but B, lie as they lay. -/
structure ButLo (lo B : Nat) (W W' : World) : Prop where
  os : W'.os = W.os
  tape : W'.tape = W.tape
  output : W'.output = W.output
  size : W.heap.size ≤ W'.heap.size
  block : ∀ k, k < lo → k ≠ B → W'.heap[k]? = W.heap[k]?
theorem ButLo.refl (lo B : Nat) (W : World) : ButLo lo B W W := ⟨rfl, rfl, rfl, Nat.le_refl _, fun _ _ _ => rfl⟩
theorem ButLo.trans {lo B : Nat} {W W' W'' : World} (h : ButLo lo B W W') (k : ButLo lo B W' W'') : ButLo lo B W W'' :=
  ⟨k.os.trans h.os, k.tape.trans h.tape, k.output.trans h.output, Nat.le_trans h.size k.size, fun j h1 h2 => (k.block j h1 h2).trans (h.block j h1 h2)⟩
theorem ButLo.below {lo B b : Nat} {W W' W'' : World} (h : ButLo lo B W W') (k : Below b W' W'') (hb : lo ≤ b) : ButLo lo B W W'' :=
  ⟨k.os.trans h.os, k.tape.trans h.tape, k.output.trans h.output, Nat.le_trans h.size k.size, fun j h1 h2 => (k.block j (Nat.lt_of_lt_of_le h1 hb)).trans (h.block j h1 h2)⟩
theorem ButLo.grown {lo B : Nat} {r : Option Nat} {W W' W'' : World} (h : ButLo lo B W W') (k : W'.grownBy W'' r) (hr : ∀ g, r = some g → lo ≤ g) (hlo : lo ≤ W'.heap.size) : ButLo lo B W W'' :=
  ⟨k.os.trans h.os, k.tape.trans h.tape, k.output.trans h.output, Nat.le_trans h.size k.size, fun j h1 h2 => (k.block j (Nat.lt_of_lt_of_le h1 hlo) (fun e => by have := hr j e.symm; omega)).trans (h.block j h1 h2)⟩
theorem ButLo.set {lo B j : Nat} {W W' : World} (h : ButLo lo B W W') (u : Value) : ButLo lo B W (W'.setCell ⟨B, j, none⟩ u) :=
  ⟨h.os, h.tape, h.output, by simpa using h.size, fun k h1 h2 => (Below.heap_setCell _ _ _ _ h2).trans (h.block k h1 h2)⟩
theorem own_setB {b n z k j : Nat} {W : World} {t : TypeId} {v : Value} {xs : List Value} (h : W.ownsRow b t z v n xs) (hk : k < b) (u : Value) : (W.setCell ⟨k, j, none⟩ u).ownsRow b t z v n xs := by
  obtain ⟨h0, h | ⟨g, cap, cur, hv, hg, hkk, hr⟩⟩ := h
  · exact ⟨h0, .inl h⟩
  · exact ⟨h0, .inr ⟨g, cap, cur, hv, hg, (Below.heap_setCell _ _ _ _ (by show g ≠ k; omega)).trans hkk, hr⟩⟩
theorem own_gr {w w' : World} {B z : Nat} {r : Option Nat} {e : TypeId} {v : Value} {n : Nat} {xs : List Value} (h : w.ownsRow B e z v n xs) (hg : w.grownBy w' r) (hr : ∀ g, v.ownBlock = some g → r ≠ some g) : w'.ownsRow B e z v n xs :=
  h.kept hg (by
    cases hv : v.ownBlock with
    | none => exact .inl rfl
    | some g => exact .inr (fun e => hr g hv e.symm))
theorem own_lo {w : World} {B z : Nat} {e : TypeId} {v : Value} {n : Nat} {xs : List Value} (h : w.ownsRow B e z v n xs) : ∀ g, v.ownBlock = some g → B ≤ g := fun g hg => (h.lt g hg).1
end Go.Proofs.YtoandhhkmkgmaaaGreatDoor
