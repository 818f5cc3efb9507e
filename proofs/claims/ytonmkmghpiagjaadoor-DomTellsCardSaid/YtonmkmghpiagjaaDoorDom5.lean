/- Rows of sets that a call of its own keeps: one stored, one read, how many stand in them all. No condition. -/
import Derived.Test.YtonmkmghpiagjaaDoorDomPlain4
import Derived.Test.YtonmkmghpiagjaaDoorReach5
namespace Go.Proofs.YtonmkmghpiagjaaDoor
open Go.RowKit

def boolN : Value → Nat
  | .bool true => 1
  | _ => 0
/-- Whole numbers as values. -/
def iw (z : Int) : Value := .int .i64 z
theorem fault_none {l sets : List Nat} (hg : Good l) (hs : ∀ s ∈ sets, InRows l s) : faultOf l sets = 0 := by
  unfold faultOf
  rw [if_neg (by have := hg.1; omega), if_pos]
  rw [List.all_eq_true]
  intro x hx
  have hx' : ∀ j, x.testBit j = true → j < l.length := by
    rcases List.mem_append.1 hx with h | h
    · obtain ⟨i, hi, rfl⟩ := List.mem_iff_getElem.1 h
      intro j hj
      refine hg.2 i j ?_
      unfold rowAt
      simpa [hi] using hj
    · exact hs x h
  exact (inU_iff hg.1 (B64.of_bits fun j hj => Nat.lt_of_lt_of_le (hx' j hj) hg.1)).2 hx'
/-- Rows of sets as values. -/
def fuv (f : Nat → Nat) (n : Nat) : List Value := ((List.range n).map f).map uv
theorem fuv_congr {f g : Nat → Nat} {n : Nat} (h : ∀ x, x < n → f x = g x) : fuv f n = fuv g n := by
  unfold fuv
  congr 1
  exact List.map_congr_left fun x hx => h x (List.mem_range.1 hx)
theorem fuv_zero (n : Nat) : List.replicate n (Value.int .u64 0) = fuv (fun _ => 0) n := by
  apply List.ext_getElem?
  intro i
  unfold fuv
  rw [List.getElem?_map, List.getElem?_map, List.getElem?_replicate]
  by_cases hi : i < n <;> simp [hi, uv]
theorem fuv_set {w : World} {B g E n c q : Nat} {f : Nat → Nat} {v : Nat} (h : w.ownsRow B E 1 (.slice (some ⟨g, 0, none⟩) n c) n (fuv f n)) :
    (w.setCell ⟨g, q, none⟩ (.int .u64 (v : Nat))).ownsRow B E 1 (.slice (some ⟨g, 0, none⟩) n c) n (fuv (updF f q v) n) ∧ w.grownBy (w.setCell ⟨g, q, none⟩ (.int .u64 (v : Nat))) (some g) := by
  have h1 := h.stored q (.int .u64 (v : Nat))
  refine ⟨?_, h1.2⟩
  have h2 := h1.1
  unfold fuv at h2 ⊢
  rw [show (Value.int .u64 ((v : Nat) : Int)) = uv v from rfl, ← List.map_set, map_range_set] at h2
  exact h2
theorem fuv_cell {w : World} {B g E n c q : Nat} {f : Nat → Nat} (h : w.ownsRow B E 1 (.slice (some ⟨g, 0, none⟩) n c) n (fuv f n)) (hq : q < n) :
    w.cell? ⟨g, q, none⟩ = some (.int .u64 (f q : Nat)) := by
  have := h.cellAt q (by simpa [fuv] using hq)
  rw [this]
  simp [fuv, uv, hq]
/-- How many stand in the first k rows that lie in block g. -/
def cellTot (w : World) (g : Nat) : Nat → Nat
  | 0 => 0
  | k + 1 => cellTot w g k + (nums (intOf ((w.cell? ⟨g, k, none⟩).getD (.int .u64 0))).toNat).length
theorem cellTot_eq {w : World} {B g E n c : Nat} {f : Nat → Nat} (h : w.ownsRow B E 1 (.slice (some ⟨g, 0, none⟩) n c) n (fuv f n)) (k : Nat) (hk : k ≤ n) : cellTot w g k = tot f k := by
  induction k with
  | zero => rfl
  | succ k ih =>
    unfold cellTot tot
    rw [ih (by omega), fuv_cell h (by omega)]
    simp [intOf]
/-- While the program gives each that is reached all that are reached. -/
def midC (l : List Nat) (root k i : Nat) : Nat := if i ∈ (nums (comeS l root)).take k then comeS l root else 0
theorem midC_start (l : List Nat) (root i : Nat) : midC l root 0 i = 0 := by unfold midC; simp
theorem midC_set (l : List Nat) (root k : Nat) (hk : k < (nums (comeS l root)).length) (i : Nat) : updF (midC l root k) ((nums (comeS l root))[k]?.getD 0) (comeS l root) i = midC l root (k + 1) i := by
  unfold midC updF
  rw [take_snoc _ 0 k hk]
  by_cases h : i = (nums (comeS l root))[k]?.getD 0
  · rw [if_pos h, if_pos]
    rw [h]
    simp
  · rw [if_neg h]
    have : (i ∈ (nums (comeS l root)).take k ++ [(nums (comeS l root))[k]?.getD 0]) ↔ i ∈ (nums (comeS l root)).take k := by
      rw [List.mem_append, List.mem_singleton]
      exact ⟨fun h' => h'.resolve_right h, .inl⟩
    simp only [this]
theorem midC_end {l : List Nat} {root : Nat} (hg : Good l) (hr : root < l.length) (i : Nat) : updF (midC l root (nums (comeS l root)).length) root (2 ^ root) i = domF0 l root i := by
  unfold updF midC domF0
  rw [List.take_of_length_le (Nat.le_refl _)]
  by_cases h : i = root
  · rw [if_pos h, if_pos h]
  · rw [if_neg h, if_neg h]
    have : (i ∈ nums (comeS l root)) ↔ (comeS l root).testBit i = true := mem_nums ((come_in hg hr).b64 hg)
    simp only [this]
/-- What the inner pass keeps: f at its start, F now. -/
structure DomPass (l : List Nat) (root n : Nat) (f : Nat → Nat) (done : List Nat) (F : Nat → Nat) (b : Bool) : Prop where
  inv : DomInv l root F
  same : b = false → ∀ m ∈ done, newS l root F m = F m
  less : tot F n + (if b then 1 else 0) ≤ tot f n
theorem domPass_start {l : List Nat} {root n : Nat} {f : Nat → Nat} (h : DomInv l root f) : DomPass l root n f [] f false := ⟨h, fun _ m hm => by simp at hm, by simp⟩
theorem domPass_keep {l : List Nat} {root n m : Nat} {f F : Nat → Nat} {done : List Nat} {b : Bool} (h : DomPass l root n f done F b) (he : newS l root F m = F m) : DomPass l root n f (done ++ [m]) F b :=
  ⟨h.inv, fun hb x hx => by
    rcases List.mem_append.1 hx with hx | hx
    · exact h.same hb x hx
    · rw [List.mem_singleton] at hx; subst hx; exact he, h.less⟩
theorem domPass_turn {l : List Nat} {root n m : Nat} {f F : Nat → Nat} {done : List Nat} {b : Bool} (hg : Good l) (hl : l.length = n) (hr : root < n) (h : DomPass l root n f done F b) (hm : (comeS l root).testBit m = true) (hmr : m ≠ root) (he : newS l root F m ≠ F m) :
    DomPass l root n f (done ++ [m]) (updF F m (newS l root F m)) true := by
  subst hl
  refine ⟨domInv_step hg hr h.inv hm hmr, fun hb => (by cases hb), ?_⟩
  have h1 := tot_less hg hr h.inv hm hmr he
  have h2 := h.less
  simp only [if_true]
  split at h2 <;> omega
theorem domPass_end {l : List Nat} {root n : Nat} {f F : Nat → Nat} {done : List Nat} (h : DomPass l root n f done F false) (hd : ∀ m, (comeS l root).testBit m = true → m ≠ root → m ∈ done) : ∀ m, (comeS l root).testBit m = true → m ≠ root → newS l root F m = F m :=
  fun m h1 h2 => h.same rfl m (hd m h1 h2)
theorem lead_b64 {l : List Nat} {root : Nat} (hg : Good l) (hr : root < l.length) (n : Nat) : B64 (leadS l root n) := B64.and' ((come_in hg hr).b64 hg)
theorem come_but {l : List Nat} {root : Nat} (hg : Good l) (hr : root < l.length) (m : Nat) : m ∈ nums (minus (comeS l root) (2 ^ root)) ↔ (comeS l root).testBit m = true ∧ m ≠ root := by
  have hb := (come_in hg hr).b64 hg
  have hr64 : root < 64 := Nat.lt_of_lt_of_le hr hg.1
  rw [mem_nums (minus_b64 hb), minus_bit hb (B64.two hr64), Nat.testBit_two_pow]
  simp
  exact fun _ => ⟨fun h e => h e.symm, fun h e => h e.symm⟩
end Go.Proofs.YtonmkmghpiagjaaDoor
