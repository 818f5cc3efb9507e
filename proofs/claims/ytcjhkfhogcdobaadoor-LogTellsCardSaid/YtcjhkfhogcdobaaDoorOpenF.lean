/- Times that come in: one, a slice of them. No condition. -/
import Derived.Test.YtcjhkfhogcdobaaDoorOpen
import Derived.Test.YtcjhkfhogcdobaaDoorSpanPlain
namespace Go.Proofs.YtcjhkfhogcdobaaDoor
open Go.RowKit Go.WideShapes Go.ChangeShapes Go.ChangeAt

theorem bits64 {b : Nat} (h : (Lit.float .f64 b).wf = true) : ∃ x : UInt64, b = x.toNat := by
  have hb : b < 2 ^ 64 := by simpa [Lit.wf] using h
  exact ⟨UInt64.ofNat b, by rw [UInt64.toNat_ofNat']; exact (Nat.mod_eq_of_lt hb).symm⟩
theorem open_time {H : Type} {enc : TypeId × Value → H} {P : Program} {W : World} {base : Nat} {t : TypeId} {v : Value} {d : DataW H} {ps : List MemPlace} (ht : P.underlying t = some (.float .f64))
    (hok : Value.okWide P W .any base t v) (h : DataW.Trod enc P W 0 (fun _ => true) true t v d ps) : ∃ x : UInt64, v = fv x := by
  obtain ⟨b, rfl, _, _, hw⟩ := open_float ht hok h
  obtain ⟨x, rfl⟩ := bits64 hw
  exact ⟨x, rfl⟩
theorem trod_time {H : Type} {enc : TypeId × Value → H} {P : Program} {W : World} {base n : Nat} {sp : Nat → Bool} {hd : Bool} {e : TypeId} {V : Value} {D : DataW H} {Pl : List MemPlace} (he : P.underlying e = some (.float .f64))
    (h : DataW.trod enc P W base sp hd n e [V] = some (D, Pl)) : ∃ x : UInt64, V = fv x ∧ True := by
  cases n with
  | zero => simp [DataW.trod] at h
  | succ n =>
    simp only [DataW.trod, he] at h
    cases V <;> simp at h
    rename_i k b
    obtain ⟨⟨rfl, hw⟩, _⟩ := h
    obtain ⟨x, rfl⟩ := bits64 hw
    exact ⟨x, rfl, trivial⟩
end Go.Proofs.YtcjhkfhogcdobaaDoor
