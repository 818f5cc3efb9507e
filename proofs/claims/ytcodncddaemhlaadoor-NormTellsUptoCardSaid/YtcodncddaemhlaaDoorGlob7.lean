/- Contracts: glob.match's closure skip. -/
import Derived.Test.YtcodncddaemhlaaDoorGlob6
import Derived.Test.YtcodncddaemhlaaDoorGlobBits
namespace Go.Proofs.YtcodncddaemhlaaDoor
open Go.RowKit

theorem pcs_len {P : List PW} (h : ∀ p ∈ P, p.ws.length = 4) : (pcs P).length = P.length * 5 := by
  unfold pcs
  induction P with
  | nil => rfl
  | cons p P ih =>
    have hp := h p (by simp)
    rw [List.flatMap_cons, List.length_append, ih (fun q hq => h q (by simp [hq]))]
    simp [pieceL, hp]
    omega
theorem pcs_at : ∀ {P : List PW} {k : Nat} {p : PW} {j : Nat} {v : Value}, (∀ p ∈ P, p.ws.length = 4) → P[k]? = some p → (pieceL p.any p.ws)[j]? = some v → (pcs P)[k * 5 + j]? = some v
  | [], k, p, j, v, _, h, _ => by simp at h
  | x :: P, 0, p, j, v, hl, h, hv => by
    simp at h
    subst h
    unfold pcs
    rw [List.flatMap_cons, Nat.zero_mul, Nat.zero_add, List.getElem?_append_left (List.getElem?_eq_some_iff.1 hv).1]
    exact hv
  | x :: P, k + 1, p, j, v, hl, h, hv => by
    have hx := hl x (by simp)
    have ih := pcs_at (P := P) (k := k) (j := j) (fun q hq => hl q (by simp [hq])) (by simpa using h) hv
    unfold pcs at *
    have he : (pieceL x.any x.ws).length = 5 := by simp [pieceL, hx]
    rw [List.flatMap_cons, List.getElem?_append_right (by rw [he]; omega), he, show (k + 1) * 5 + j - 5 = k * 5 + j by omega]
    exact ih
theorem Pws.four {P : List PW} {M : List GQ} (h : Pws P M) : ∀ p ∈ P, p.ws.length = 4 := fun p hp => by
  obtain ⟨i, hi⟩ := List.mem_iff_getElem?.1 hp
  have hl := (List.getElem?_eq_some_iff.1 hi).1
  exact (h.2 i p _ hi (List.getElem?_eq_getElem (by rw [← h.1]; exact hl))).2.len
theorem Pws.get {P : List PW} {M : List GQ} (h : Pws P M) {i : Nat} (hi : i < P.length) : ∃ an x0 x1 x2 x3, P[i]? = some ⟨an, [x0, x1, x2, x3]⟩ ∧ an = anyAt (M.map (·.p)) i ∧ Wd [x0, x1, x2, x3] (setAt (M.map (·.p)) i) := by
  have hp := List.getElem?_eq_getElem hi
  have hm : M[i]? = some (M[i]'(by rw [← h.1]; exact hi)) := List.getElem?_eq_getElem (by rw [← h.1]; exact hi)
  obtain ⟨h1, h2⟩ := h.2 i _ _ hp hm
  cases hq : P[i] with
  | mk an ws =>
    rw [hq] at h1 h2 hp
    obtain ⟨x0, x1, x2, x3, rfl⟩ := four_of h2.len
    refine ⟨an, x0, x1, x2, x3, hp, ?_, wd_ext h2 fun c _ => ?_⟩
    · unfold anyAt; rw [List.getElem?_map, hm]; exact h1
    · unfold setAt; rw [List.getElem?_map, hm]; rfl
/-- A piece that is read. -/
theorem Rd.piece {w : World} {A : Option Addr} {P : List PW} (hf : ∀ p ∈ P, p.ws.length = 4) (h : Rd w A (pcs P)) {k : Nat} {an : Bool} {x0 x1 x2 x3 : Nat} (hk : P[k]? = some ⟨an, [x0, x1, x2, x3]⟩) :
    ∃ b off, A = some ⟨b, off, none⟩ ∧ b < w.heap.size ∧ w.cell? ⟨b, off + k * 5, none⟩ = some (.bool an) ∧ w.cell? ⟨b, off + k * 5 + 1, none⟩ = some (.int .u64 (x0 : Int)) ∧ w.cell? ⟨b, off + k * 5 + 2, none⟩ = some (.int .u64 (x1 : Int)) ∧ w.cell? ⟨b, off + k * 5 + 3, none⟩ = some (.int .u64 (x2 : Int)) ∧ w.cell? ⟨b, off + k * 5 + 4, none⟩ = some (.int .u64 (x3 : Int)) := by
  have hl := (List.getElem?_eq_some_iff.1 hk).1
  obtain ⟨b, off, rfl, hb, hc⟩ := h (by rw [pcs_len hf]; omega)
  have hj : ∀ j v, (pieceL an [x0, x1, x2, x3])[j]? = some v → w.cell? ⟨b, off + k * 5 + j, none⟩ = some v := fun j v hv => by
    rw [Nat.add_assoc]
    exact hc _ _ (pcs_at hf hk hv)
  exact ⟨b, off, rfl, hb, hj 0 _ rfl, hj 1 _ rfl, hj 2 _ rfl, hj 3 _ rfl, hj 4 _ rfl⟩
theorem pc_keep {w w' : World} {b o : Nat} {v : Value} (h : w.cell? ⟨b, o, none⟩ = some v) (hb : Below w.heap.size w w') : w'.cell? ⟨b, o, none⟩ = some v := (hb.cell (p := ⟨b, o, none⟩) (lt_of_cell' h)).trans h
theorem skip_val {X i : Nat} (hx : X < 18446744073709551616) (hi : i + 1 < 64) : bits .or .u64 (X : Int) (IntKind.u64.wrap (bits .and .u64 ((X : Int) / 2 ^ i) 1 * 2 ^ (i + 1))) = ((if X.testBit i then X ||| 2 ^ (i + 1) else X : Nat) : Int) := by
  rw [bit_val i hx]
  cases X.testBit i with
  | true =>
    rw [if_pos rfl, if_pos rfl, Int.one_mul]
    exact or_val hx hi
  | false =>
    rw [if_neg (by decide), if_neg (by decide), Int.zero_mul]
    have e : IntKind.u64.wrap 0 = ((0 : Nat) : Int) := by decide
    rw [e, u64_or_nat X 0 hx (by decide), Nat.or_zero]
theorem skip_bt {l : List GP} {X n i : Nat} {B : Nat → Bool} (h : Bt X n (skF l B i)) (ha : anyAt l i = true) (hi : i < n) (hn : n < 64) : Bt (if X.testBit i then X ||| 2 ^ (i + 1) else X) n (skF l B (i + 1)) := by
  have hb := h.at_ i
  rw [decide_eq_true (by omega : i ≤ n), Bool.true_and] at hb
  cases hx : X.testBit i with
  | true =>
    rw [if_pos rfl]
    rw [hx] at hb
    exact bt_ext (bt_set h (i := i + 1) (by omega) hn) fun j _ => skF_yes ha hb.symm j
  | false =>
    rw [if_neg (by decide)]
    rw [hx] at hb
    exact bt_ext h fun j _ => skF_no (.inr hb.symm) j
end Go.Proofs.YtcodncddaemhlaaDoor
