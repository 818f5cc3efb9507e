/- Contract: the reference's Rising. Fewer than 2^20 texts. -/
import Derived.Test.YtcjhkfhogcdobaaDoorName1
import Derived.Test.YtcjhkfhogcdobaaDoorOwn2
import Derived.Test.YtcjhkfhogcdobaaDoorAppendReg
namespace Go.Proofs.YtcjhkfhogcdobaaDoor
open Go.RowKit

theorem elStr : ElT Tryd.prog 50 9 (.string ⟨#[]⟩) 16 := ElT.mk' Tryd.underlying50 (by kernel_rfl) rfl
theorem sv_one (l : List (List UInt8)) : ∀ u ∈ l.map sv, u.oneCell' = true := by
  intro u hu
  obtain ⟨x, _, rfl⟩ := List.mem_map.1 hu
  rfl
theorem bytesLess_lt : ∀ (x y : List UInt8), Op.bytesLess x y = decide (x < y)
  | [], [] => by simp [Op.bytesLess]
  | [], _ :: _ => by simp [Op.bytesLess]
  | _ :: _, [] => by simp [Op.bytesLess]
  | a :: x, b :: y => by
    rw [Op.bytesLess, bytesLess_lt x y, Bool.eq_iff_iff]
    simp [List.cons_lt_cons_iff]
theorem less_sv (x y : List UInt8) : Op.bytesLess (⟨x.toArray⟩ : ByteArray).toList (⟨y.toArray⟩ : ByteArray).toList = decide (x < y) := by
  rw [Lib.toList_data, Lib.toList_data]
  exact bytesLess_lt x y
theorem lowS_eq {out : List (List UInt8)} {s : List UInt8} {k : Nat} (h1 : ∀ (j : Nat) (x : List UInt8), j < k → out[j]? = some x → x < s) (hk : k ≤ out.length)
    (h2 : k = out.length ∨ ∃ x, out[k]? = some x ∧ ¬ x < s) : lowS out s = k := by
  induction out generalizing k with
  | nil =>
    simp at hk
    subst hk; rfl
  | cons y out ih =>
    unfold lowS
    cases k with
    | zero =>
      rcases h2 with h2 | ⟨x, hx, hn⟩
      · simp at h2
      · simp at hx
        subst hx
        simp [hn]
    | succ k =>
      have hy := h1 0 y (by omega) rfl
      have := ih (k := k) (fun j x hj hx => h1 (j + 1) x (by omega) hx) (by simp at hk; exact hk) (by
        rcases h2 with h2 | ⟨x, hx, hn⟩
        · left; simp at h2; exact h2
        · right; exact ⟨x, by simpa using hx, hn⟩)
      unfold lowS at this
      simp [hy, this]
theorem own_more {w : World} {B e n c : Nat} {A : Option Addr} {xs : List Value} (h : w.ownsRow B e 1 (.slice A n c) n xs) (hn : 0 < n) : ∃ g, A = some ⟨g, 0, none⟩ ∧ n ≤ c := by
  rcases h.2 with ⟨_, h0⟩ | ⟨g, cap, cur, hv, _, _, h1, _⟩
  · omega
  · injection hv with hA _ hc
    exact ⟨g, hA, by omega⟩
theorem lit_cell {w : World} {v : Value} {e : TypeId} : ∀ (j : Nat) (u : Value), ([v] : List Value)[j]? = some u → (w.drew.alloc (.cells #[v] e)).cell? ((⟨w.heap.size, 0, none⟩ : Addr).add j) = some u := by
  intro j u hj
  match j, hj with
  | 0, hj =>
    simp at hj
    subst hj
    unfold Addr.add
    rw [if_pos rfl]
    show (w.drew.alloc (.cells #[v] e)).cell? ⟨w.drew.heap.size, 0, none⟩ = some v
    rw [World.cell?_alloc_at _ _ _ _ rfl]
    rfl
theorem own_cells {w : World} {B e g n c : Nat} {xs : List Value} (h : w.ownsRow B e 1 (.slice (some ⟨g, 0, none⟩) n c) n xs) : ∀ (j : Nat) (u : Value), xs[j]? = some u → w.cell? ((⟨g, 0, none⟩ : Addr).add j) = some u := fun j u hj => h.cells (g := g) rfl j u hj
theorem drew_alloc_below (w : World) (o : Obj) : Below w.heap.size w (w.drew.alloc o) := Below.alloc (a := w) (w := w.drew) ⟨rfl, rfl, rfl, Nat.le_refl _, fun _ _ => rfl⟩ (Nat.le_refl _) o
/-- The slice's address, if there is one, is a block that was made since. -/
def NewAt (w : World) (A : Option Addr) : Prop := ∀ g o, A = some ⟨g, o, none⟩ → w.heap.size ≤ g
theorem newAt_of {w : World} {g7 b : Nat} (h : b ≤ g7) (hb : w.heap.size ≤ b) : NewAt w (some ⟨g7, 0, none⟩) := fun g o e => by
  injection e with e
  injection e with e _ _
  omega
theorem newAt_none (w : World) : NewAt w none := fun _ _ e => by cases e
/-- What holds between two texts. -/
def RisRel (l : List (List UInt8)) (w : World) (k : Nat) (v : Value) (wr : World) : Prop :=
  ∃ (A : Option Addr) (m c : Nat) (out : List (List UInt8)), v = .slice A m c ∧ m ≤ k ∧ m ≤ c ∧ (A = none → m = 0 ∧ c = 0) ∧ Hid (out.length = m) ∧ Hid (Rd wr A (out.map sv)) ∧ Hid (out = rising (l.take k)) ∧ Hid (Below w.heap.size w wr) ∧ (m = 0 → A = none) ∧ Hid (NewAt w A)
def RisPostN (l : List (List UInt8)) (w : World) (e : Ending) (w' : World) : Prop :=
  ∃ (A : Option Addr) (c : Nat), e = .returned (.slice A (rising l).length c) ∧ Rd w' A ((rising l).map sv) ∧ Below w.heap.size w w' ∧ NewAt w A
def RisPost (l : List (List UInt8)) (w : World) (e : Ending) (w' : World) : Prop :=
  ∃ (A : Option Addr) (c : Nat), e = .returned (.slice A (rising l).length c) ∧ Rd w' A ((rising l).map sv) ∧ Below w.heap.size w w'
end Go.Proofs.YtcjhkfhogcdobaaDoor
