/- Contracts: the reference's SameLines at the same lines; lines as they come in; the text of lines, in plain Lean. -/
import Derived.Test.YtjdfmmjadjggjaaDoorLn10
import Derived.BigQuiet
import Derived.Deep.QuietTactic
namespace Go.Proofs.YtjdfmmjadjggjaaDoor
open Go.RowKit

/-- Lines as they come in. -/
def lnZ (L : List (Int × List UInt8)) : List Value := L.flatMap fun x => [.int .i64 x.1, .string ⟨x.2.toArray⟩]
theorem flat2_at {α : Type} (f g : α → Value) : ∀ (L : List α) (i : Nat) (x : α), L[i]? = some x → (L.flatMap fun x => [f x, g x])[2 * i]? = some (f x) ∧ (L.flatMap fun x => [f x, g x])[2 * i + 1]? = some (g x)
  | [], i, x, h => by cases h
  | a :: L, 0, x, h => by simp at h; subst h; exact ⟨rfl, rfl⟩
  | a :: L, i + 1, x, h => by
    have h' : L[i]? = some x := by simpa using h
    have ih := flat2_at f g L i x h'
    have e : (a :: L).flatMap (fun x => [f x, g x]) = f a :: g a :: (L.flatMap fun x => [f x, g x]) := rfl
    rw [e, show 2 * (i + 1) = 2 * i + 1 + 1 by omega]
    simpa using ih
theorem Rd.two {α : Type} {f g : α → Value} {w : World} {A : Option Addr} {L : List α} (h : Rd w A (L.flatMap fun x => [f x, g x])) {i : Nat} {x : α} (hi : L[i]? = some x) :
    ∃ b off, A = some ⟨b, off, none⟩ ∧ w.cell? ⟨b, off + 2 * i, none⟩ = some (f x) ∧ w.cell? ⟨b, off + 2 * i + 1, none⟩ = some (g x) := by
  obtain ⟨h1, h2⟩ := flat2_at f g L i x hi
  obtain ⟨b, off, hA, _, hc⟩ := h (by have := (List.getElem?_eq_some_iff.1 h1).1; omega)
  exact ⟨b, off, hA, hc _ _ h1, hc _ _ h2⟩
theorem Rd.own2 {base : Nat} {w : World} {A : Option Addr} {e : TypeId} {sz n c : Nat} {xs : List Value} (h : w.ownsRow base e sz (.slice A n c) n xs) : Rd w A xs := by
  intro hn
  rcases h.2 with ⟨hv, h0⟩ | ⟨g, cap, cur, hv, _, hh, _, _, _, ht⟩
  · have := h.1; subst h0; omega
  · injection hv with hA _ _
    subst hA
    refine ⟨g, 0, rfl, lt_of_blockG hh, fun j u hu => ?_⟩
    rw [← ht, List.getElem?_take] at hu
    split at hu
    · simp [World.cell?, hh]
      simpa using hu
    · cases hu
set_option maxRecDepth 100000 in
set_option maxHeartbeats 1000000 in
theorem rSame_any (L : List (Nat × List UInt8)) (A B : Option Addr) (c d : Nat) (w : World) (hA : Rd w A (lnV L)) (hB : Rd w B (lnV L)) (hL : L.length ≤ 1048576) :
    Calls Tryd.prog 6 #[.slice A L.length c, .slice B L.length d] w fun e w' => e = .returned (.bool true) ∧ Below w.heap.size w w' := by
  have HA := Lib.hid hA
  have HB := Lib.hid hB
  clear hA hB
  generalize hn : L.length = n at *
  have HN := Lib.hid hn
  clear hn
  go_enter Tryd.func6, Tryd.ntmps6
  go_wp2_with fail
  go_loopw [13] (fun x wr => ∃ i : Nat, x = .int .i64 (i : Int) ∧ i ≤ n ∧ ∃ q, wr = w.drewN q) (fun x _ => n - (intOf x).toNat)
  case atStart => exact ⟨0, rfl, by omega, 0, rfl⟩
  case round =>
    obtain ⟨i, rfl, hi, q, hq⟩ := hrel
    have HQ := Lib.hid hq
    have HA := Lib.hid (show Rd wr A (lnV L) by rw [hq]; exact HA.out.drewN q)
    have HB := Lib.hid (show Rd wr B (lnV L) by rw [hq]; exact HB.out.drewN q)
    clear hq
    by_cases hlt : i < n
    · obtain ⟨x, hx⟩ : ∃ x, L[i]? = some x := ⟨_, List.getElem?_eq_getElem (by rw [HN.out]; exact hlt)⟩
      obtain ⟨b1, o1, rfl, a1, a2⟩ := HA.out.two hx
      obtain ⟨b2, o2, rfl, c1, c2⟩ := HB.out.two hx
      have hltI : (i : Int) < (n : Int) := by omega
      have hcap : 2 * i = i * 2 := by omega
      rw [hcap] at a1 a2 c1 c2
      clear hcap
      obtain ⟨k, bx⟩ := x
      simp only [] at a1 a2 c1 c2
      generalize (⟨bx.toArray⟩ : ByteArray) = bs at *
      go_wp2_with fail
      go_quiet (fail)
      go_wp2_with fail
      exact ⟨⟨i + 1, rfl, by omega, q + nq, by rw [HQ.out, World.drewN_drewN]⟩, measL hlt⟩
    · have hie : i = n := by omega
      subst hie
      go_wp2_with fail
      go_ret
      exact ⟨rfl, by rw [HQ.out]; exact below_of_drewN _ _⟩
end Go.Proofs.YtjdfmmjadjggjaaDoor
