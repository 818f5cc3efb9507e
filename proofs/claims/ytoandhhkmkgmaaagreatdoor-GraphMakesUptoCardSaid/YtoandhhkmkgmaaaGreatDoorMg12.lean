/- Contracts that the law's proof leans on, and plain lemmas to them, merged. No condition beyond each contract's own hypotheses. -/
import Derived.Test.YtoandhhkmkgmaaaGreatDoorMg9
import Derived.Maps.AppendAt
import Derived.Test.YtoandhhkmkgmaaaGreatDoorMg11
namespace Go.Proofs.YtoandhhkmkgmaaaGreatDoor
open Go.RowKit

structure ButLo (lo B : Nat) (W W' : World) : Prop where
 os : W'.os = W.os
 tape : W'.tape = W.tape
 output : W'.output = W.output
 size : W.heap.size ≤ W'.heap.size
 block : ∀ k, k < lo → k ≠ B → W'.heap[k]? = W.heap[k]?
theorem ButLo.refl (lo B : Nat) (W : World) : ButLo lo B W W := ⟨rfl, rfl, rfl, Nat.le_refl _, fun _ _ _ => rfl⟩
theorem ButLo.trans {lo B : Nat} {W W' W'' : World} (h : ButLo lo B W W') (k : ButLo lo B W' W'') : ButLo lo B W W'' :=
 ⟨k.os.trans h.os, k.tape.trans h.tape, k.output.trans h.output, Nat.le_trans h.size k.size, fun j h1 h2 => (k.block j h1 h2).trans (h.block j h1 h2)⟩
theorem ButLo.below {lo B b : Nat} {W W' W'' : World} (h : ButLo lo B W W') (k : Below b W' W'') (hb : lo ≤ b) : ButLo lo B W W'' :=
 ⟨k.os.trans h.os, k.tape.trans h.tape, k.output.trans h.output, Nat.le_trans h.size k.size, fun j h1 h2 => (k.block j (Nat.lt_of_lt_of_le h1 hb)).trans (h.block j h1 h2)⟩
theorem ButLo.grown {lo B : Nat} {r : Option Nat} {W W' W'' : World} (h : ButLo lo B W W') (k : W'.grownBy W'' r) (hr : ∀ g, r = some g → lo ≤ g) (hlo : lo ≤ W'.heap.size) : ButLo lo B W W'' :=
 ⟨k.os.trans h.os, k.tape.trans h.tape, k.output.trans h.output, Nat.le_trans h.size k.size, fun j h1 h2 => (k.block j (Nat.lt_of_lt_of_le h1 hlo) (fun e => by have := hr j e.symm; omega)).trans (h.block j h1 h2)⟩
theorem ButLo.set {lo B j : Nat} {W W' : World} (h : ButLo lo B W W') (u : Value) : ButLo lo B W (W'.setCell ⟨B, j, none⟩ u) :=
 ⟨h.os, h.tape, h.output, by simpa using h.size, fun k h1 h2 => (Below.heap_setCell _ _ _ _ h2).trans (h.block k h1 h2)⟩
theorem own_setB {b n z k j : Nat} {W : World} {t : TypeId} {v : Value} {xs : List Value} (h : W.ownsRow b t z v n xs) (hk : k < b) (u : Value) : (W.setCell ⟨k, j, none⟩ u).ownsRow b t z v n xs := by
 obtain ⟨h0, h | ⟨g, cap, cur, hv, hg, hkk, hr⟩⟩ := h
 ·exact ⟨h0, .inl h⟩
 ·exact ⟨h0, .inr ⟨g, cap, cur, hv, hg, (Below.heap_setCell _ _ _ _ (by show g ≠ k; omega)).trans hkk, hr⟩⟩
theorem own_gr {w w' : World} {B z : Nat} {r : Option Nat} {e : TypeId} {v : Value} {n : Nat} {xs : List Value} (h : w.ownsRow B e z v n xs) (hg : w.grownBy w' r) (hr : ∀ g, v.ownBlock = some g → r ≠ some g) : w'.ownsRow B e z v n xs :=
 h.kept hg (by
  cases hv : v.ownBlock with
  | none => exact .inl rfl
  | some g => exact .inr (fun e => hr g hv e.symm))
theorem own_lo {w : World} {B z : Nat} {e : TypeId} {v : Value} {n : Nat} {xs : List Value} (h : w.ownsRow B e z v n xs) : ∀ g, v.ownBlock = some g → B ≤ g := fun g hg => (h.lt g hg).1
end Go.Proofs.YtoandhhkmkgmaaaGreatDoor
namespace Go.Proofs.YtoandhhkmkgmaaaGreatDoor
open Go.RowKit

structure RowF where
 t : TypeId
 z : Nat
 v : Value
 n : Nat
 xs : List Value
structure RowsAt (lo B : Nat) (T : TypeId) (rows : List RowF) (L : List RSlot) (W : World) : Prop where
 blo : B < lo
 box : Blk W B T (rows.map (·.v))
 own : ∀ r ∈ rows, W.ownsRow lo r.t r.z r.v r.n r.xs
 apart : ∀ (i j : Nat) (r s : RowF) (g : Nat), rows[i]? = some r → rows[j]? = some s → i ≠ j → r.v.ownBlock = some g → s.v.ownBlock ≠ some g
 each : ∀ x ∈ L, RsIn x W
 far : ∀ x ∈ L, ∀ r ∈ rows, farS x r.v.ownBlock
 farB : ∀ x ∈ L, farS x (some B)
 top : lo ≤ W.heap.size
theorem rd_set {w : World} {A : Option Addr} {xs : List Value} {B j : Nat} (u : Value) (h : Rd w A xs) (hn : ∀ g off, A = some ⟨g, off, none⟩ → 0 < xs.length → some g ≠ some B) : Rd (w.setCell ⟨B, j, none⟩ u) A xs := fun hp => by
 obtain ⟨g, off, hA, hlt, hc⟩ := h hp
 have e : (w.setCell ⟨B, j, none⟩ u).heap[g]? = w.heap[g]? := Below.heap_setCell _ _ _ _ (fun e => hn g off hA hp (by rw [e]))
 exact ⟨g, off, hA, by simpa using hlt, fun k v hk => by rw [World.cell?_of_block (w := w) e]; exact hc k v hk⟩
theorem RsIn.setB {x : RSlot} {w : World} {B j : Nat} (u : Value) (h : RsIn x w) (hf : farS x (some B)) : RsIn x (w.setCell ⟨B, j, none⟩ u) :=
 ⟨rd_set u h.t hf.1, rd_set u h.n hf.2, h.tl, h.nl, h.tb, h.nb, h.tc, h.nc, h.ts, h.ns⟩
section
variable {lo B : Nat} {T : TypeId} {rows : List RowF} {L : List RSlot} {W W' : World}
theorem RowsAt.below (h : RowsAt lo B T rows L W) (hb : Below W.heap.size W W') : RowsAt lo B T rows L W' :=
 ⟨h.blo, h.box.below hb h.box.lt, fun r hr => own_belowK (h.own r hr) hb, h.apart, fun x hx => (h.each x hx).below hb, h.far, h.farB, Nat.le_trans h.top hb.size⟩
theorem RowsAt.grow (h : RowsAt lo B T rows L W) {k : Nat} {r r' : RowF} (hk : rows[k]? = some r) {o : Obj} (hg : (W.alloc o).grownBy W' r.v.ownBlock) (hown : W'.ownsRow lo r'.t r'.z r'.v r'.n r'.xs)
 (hat : r'.v.ownBlock = r.v.ownBlock ∨ r'.v.ownBlock = some (W.heap.size + 1)) {N : List RSlot} (hN : ∀ x ∈ N, RsIn x W ∧ (∀ r ∈ rows, farS x r.v.ownBlock) ∧ farS x (some B)) :
 RowsAt lo B T (rows.set k r') (L ++ N) (W'.setCell ⟨B, k, none⟩ r'.v) := by
 have hrm : r ∈ rows := List.mem_of_getElem? hk
 have hkl : k < rows.length := (List.getElem?_eq_some_iff.1 hk).1
 have hset : ∀ (j : Nat) (s : RowF), (rows.set k r')[j]? = some s → (j = k ∧ s = r') ∨ (j ≠ k ∧ rows[j]? = some s) := fun j s hs => by
  by_cases e : j = k
  ·subst e
   rw [List.getElem?_set_self hkl] at hs
   exact .inl ⟨rfl, (Option.some.inj hs).symm⟩
  ·rw [List.getElem?_set_ne (fun q => e q.symm)] at hs
   exact .inr ⟨e, hs⟩
 have hmem : ∀ s ∈ rows.set k r', s = r' ∨ ∃ j, j ≠ k ∧ rows[j]? = some s := fun s hs => by
  obtain ⟨j, hj⟩ := List.getElem?_of_mem hs
  rcases hset j s hj with ⟨_, e⟩ | ⟨e, e2⟩
  ·exact .inl e
  ·exact .inr ⟨j, e, e2⟩
 have hBr : some B ≠ r.v.ownBlock := fun e => by have := own_lo (h.own r hrm) B e.symm; have := h.blo; omega
 have hall : ∀ x ∈ L ++ N, RsIn x W ∧ (∀ r ∈ rows, farS x r.v.ownBlock) ∧ farS x (some B) := fun x hx => by
  rcases List.mem_append.1 hx with hx | hx
  ·exact ⟨h.each x hx, h.far x hx, h.farB x hx⟩
  ·exact hN x hx
 have hbox : Blk W' B T (rows.map (·.v)) := by
  unfold Blk
  rw [hg.block B (by simp; have := h.box.lt; omega) hBr, Below.heap_alloc _ _ _ h.box.lt]
  exact h.box
 refine ⟨h.blo, ?_, ?_, ?_, ?_, ?_, fun x hx => (hall x hx).2.2, ?_⟩
 ·rw [List.map_set]
  exact hbox.same k _
 ·intro s hs
  rcases hmem s hs with rfl | ⟨j, hj, hs2⟩
  ·exact own_setB hown h.blo _
  ·exact own_setB (own_gr ((h.own s (List.mem_of_getElem? hs2)).alloc _) hg fun g hg' e => h.apart k j r s g hk hs2 (fun q => hj q.symm) e hg') h.blo _
 ·intro i j a b g ha hb hij hga hgb
  rcases hset i a ha with ⟨rfl, rfl⟩ | ⟨hi, ha2⟩ <;> rcases hset j b hb with ⟨hj, hb'⟩ | ⟨hj, hb2⟩
  ·exact hij hj.symm
  ·rcases hat with hat | hat
   ·rw [hat] at hga
    exact h.apart i j r b g hk hb2 hij hga hgb
   ·rw [hat] at hga
    have := ((h.own b (List.mem_of_getElem? hb2)).lt g hgb).2
    injection hga with hga
    omega
  ·subst hj hb'
   rcases hat with hat | hat
   ·rw [hat] at hgb
    exact h.apart i j a r g ha2 hk hij hga hgb
   ·rw [hat] at hgb
    have := ((h.own a (List.mem_of_getElem? ha2)).lt g hga).2
    injection hgb with hgb
    omega
  ·exact h.apart i j a b g ha2 hb2 hij hga hgb
 ·intro x hx
  have hx' := hall x hx
  exact RsIn.setB _ (RlIn.grown hx'.1 hg (hx'.2.1 r hrm).1 (hx'.2.1 r hrm).2) hx'.2.2
 ·intro x hx s hs
  have hx' := hall x hx
  rcases hmem s hs with rfl | ⟨j, hj, hs2⟩
  ·exact far_new hx'.1 (hx'.2.1 r hrm) hat
  ·exact hx'.2.1 s (List.mem_of_getElem? hs2)
 ·have h1 := hg.size
  have h2 := h.top
  simp at h1
  simp
  omega
end
end Go.Proofs.YtoandhhkmkgmaaaGreatDoor
