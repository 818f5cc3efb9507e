/- A text that comes in. No condition. -/
import Derived.Test.YtoandhhkmkgmaaaOpen
import Derived.ChangeMaps5
namespace Go.Proofs.Ytoandhhkmkgmaaa
open Go.RowKit Go.WideShapes Go.ChangeShapes Go.ChangeAt Go.Deep

theorem str_of' (b : ByteArray) : Value.string b = Value.string ⟨b.data.toList.toArray⟩ := by rw [Array.toArray_toList]
theorem open_str' {H : Type} {enc : TypeId × Value → H} {P : Program} {W : World} {base j : Nat} {t : TypeId} {v : Value} {d : DataW H} {ps : List MemPlace}
    {ts : List TypeId} {ds : List (DataW H)} (hwt : (DataW.weightsEach P ts ds).all (· ≤ reachBytes) = true) (hts : ts[j]? = some t) (hds : ds[j]? = some d) (ht : P.underlying t = some .string)
    (hok : Value.okWide P W .any base t v) (h : DataW.Trod enc P W 0 (fun _ => true) true t v d ps) : ∃ s : List UInt8, v = .string ⟨s.toArray⟩ ∧ s.length ≤ 140737488351232 := by
  obtain ⟨b, rfl, hd, _, _⟩ := Go.ChangeMaps.open_string ht hok h
  have hsz := sized_string hwt hts (by rw [hds, hd])
  exact ⟨b.data.toList, str_of' b, hsz⟩
end Go.Proofs.Ytoandhhkmkgmaaa
