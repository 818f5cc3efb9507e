/- Texts that come in: one, a slice of them; what the bulk of a reading says of a slice's length. No condition. -/
import Derived.Test.YtcodncddaemhlaaDoorOpen
import Derived.Test.YtcodncddaemhlaaDoorName1
import Derived.ChangeMaps5
namespace Go.Proofs.YtcodncddaemhlaaDoor
open Go.RowKit Go.WideShapes Go.ChangeShapes Go.ChangeAt Go.Deep

def StrOk (s : List UInt8) : Prop := s.length ≤ maxLen
theorem sv_of (b : ByteArray) : Value.string b = sv b.data.toList := by
  unfold sv
  rw [Array.toArray_toList]
theorem str_size (b : ByteArray) : b.data.toList.length = b.size := by rw [Array.length_toList]; rfl
theorem open_str {H : Type} {enc : TypeId × Value → H} {P : Program} {W : World} {base j : Nat} {t : TypeId} {v : Value} {d : DataW H} {ps : List MemPlace}
    {ts : List TypeId} {ds : List (DataW H)} (hwt : (DataW.weightsEach P ts ds).all (· ≤ reachBytes) = true) (hts : ts[j]? = some t) (hds : ds[j]? = some d) (ht : P.underlying t = some .string)
    (hok : Value.okWide P W .any base t v) (h : DataW.Trod enc P W 0 (fun _ => true) true t v d ps) : ∃ s : List UInt8, v = sv s ∧ s.length ≤ 140737488351232 := by
  obtain ⟨b, rfl, hd, _, _⟩ := Go.ChangeMaps.open_string ht hok h
  have hsz := sized_string hwt hts (by rw [hds, hd])
  exact ⟨b.data.toList, sv_of b, hsz⟩
theorem trod_str {H : Type} {enc : TypeId × Value → H} {P : Program} {W : World} {base n : Nat} {sp : Nat → Bool} {hd : Bool} {e : TypeId} {V : Value} {D : DataW H} {Pl : List MemPlace} (he : P.underlying e = some .string)
    (h : DataW.trod enc P W base sp hd n e [V] = some (D, Pl)) : ∃ s : List UInt8, V = sv s ∧ StrOk s := by
  obtain ⟨b, hV, _, hb⟩ := DataW.trod_string he h
  injection hV with hV _
  subst hV
  exact ⟨b.data.toList, sv_of b, by unfold StrOk; rw [str_size]; exact hb⟩
theorem bulk_pos {H : Type} (d : DataW H) : 1 ≤ Rows.uptoBulk d := by
  cases d <;> first | (rename_i l; cases l <;> simp [Rows.uptoBulk]) | simp [Rows.uptoBulk]
theorem bulk_len {H : Type} : ∀ ds : List (DataW H), ds.length ≤ Rows.uptoBulkAll ds
  | [] => by simp [Rows.uptoBulkAll]
  | d :: r => by
    have h1 := bulk_pos d
    have h2 := bulk_len r
    simp only [Rows.uptoBulkAll, List.length_cons]
    omega
/-- A slice is no longer than its reading's bulk. -/
theorem len_bulk {H : Type} {enc : TypeId × Value → H} {P : Program} {W : World} {t e : TypeId} {A : Option Addr} {n c : Nat} {d : DataW H} {ps : List MemPlace}
    (ht : P.underlying t = some (.slice e)) (hc : P.cellsOf e = 1) (h : DataW.Trod enc P W 0 (fun _ => true) true t (.slice A n c) d ps) : n ≤ Rows.uptoBulk d := by
  obtain ⟨fuel, hf⟩ := h
  rcases open_slice1 ht hc hf with ⟨hcs, hx⟩ | ⟨a, len', cap', m, n', V, D, Pl, hcs, _, hl, hm, hmm, hx, hcell⟩
  · simp [Value.cells] at hcs
    omega
  · simp [Value.cells] at hcs
    obtain ⟨rfl, rfl, rfl⟩ := hcs
    have hx1 : d = .slice ((List.range n).map D) ((List.range (m - n)).map fun j => D (n + j)) := by
      have := congrArg Prod.fst hx; exact this
    subst hx1
    have := bulk_len ((List.range n).map D)
    simp only [Rows.uptoBulk]
    simp at this
    omega
end Go.Proofs.YtcodncddaemhlaaDoor
