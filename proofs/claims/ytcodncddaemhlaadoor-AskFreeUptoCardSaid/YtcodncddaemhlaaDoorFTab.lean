/- The tables of ask and of utf8, out of what the row lays. No condition. -/
import Derived.Test.YtcodncddaemhlaaDoorAsk2
import Derived.Lib.LaidU8T
import Derived.ChangeArms
namespace Go.Proofs.YtcodncddaemhlaaDoor
open Go.RowKit Go.WideShapes Go.ChangeShapes

section
variable {H : Type} {enc : TypeId × Value → H} {P : Program} {W : World} {base n : Nat} {sp : Nat → Bool} {hd : Bool} {e : TypeId} {V : Value} {D : DataW H × List MemPlace}
theorem trod_int_at {k : IntKind} {z : Int} (he : P.underlying e = some (.int k)) (h : DataW.trod enc P W base sp hd n e [V] = some D) (hD : D.1 = .lit (.int k z)) : V = .int k z := by
  cases n with
  | zero => simp [DataW.trod] at h
  | succ n =>
    simp only [DataW.trod, he] at h
    cases V <;> simp at h
    rename_i k' z'
    obtain ⟨⟨rfl, hw⟩, h⟩ := h
    rw [← h] at hD
    simp at hD
    rw [hD]
theorem trod_bool_at {b : Bool} (he : P.underlying e = some .bool) (h : DataW.trod enc P W base sp hd n e [V] = some D) (hD : D.1 = .lit (.bool b)) : V = .bool b := by
  cases n with
  | zero => simp [DataW.trod] at h
  | succ n =>
    simp only [DataW.trod, he] at h
    cases V <;> simp at h
    rw [← h] at hD
    simp at hD
    rw [hD]
theorem trod_str_at {s : List UInt8} (he : P.underlying e = some .string) (h : DataW.trod enc P W base sp hd n e [V] = some D) (hD : D.1 = .lit (.string s)) : V = .string ⟨s.toArray⟩ := by
  obtain ⟨b, hV, rfl, _⟩ := DataW.trod_string he h
  injection hV with hV _
  subst hV
  simp at hD
  rw [← hD, Array.toArray_toList]
end
theorem cellsForm : Tryd.prog.cellsOf 56 = 4 := by kernel_rfl
theorem cellsFI : Tryd.prog.cellsOf 3 = 1 := by kernel_rfl
theorem cellsFB : Tryd.prog.cellsOf 4 = 1 := by kernel_rfl
theorem cellsFS : Tryd.prog.cellsOf 9 = 1 := by kernel_rfl
set_option maxRecDepth 100000 in
theorem form_cells {H : Type} {enc : TypeId × Value → H} {W : World} {base fuel : Nat} {sp : Nat → Bool} {hd : Bool} {cs : List Value} {z : Int} {a b : Bool} {s : List UInt8} {q : List MemPlace}
    (h : DataW.trod enc Tryd.prog W base sp hd fuel 56 cs = some (.agg [.lit (.int .i64 z), .lit (.bool a), .lit (.bool b), .lit (.string s)], q)) : cs = [.int .i64 z, .bool a, .bool b, .string ⟨s.toArray⟩] := by
  obtain ⟨xs, k, hk, hx, hlen, hxl, hfl⟩ := DataW.trod_struct Tryd.underlying56 h
  rw [cellsForm] at hlen
  obtain ⟨a0, a1, a2, a3, rfl⟩ : ∃ a0 a1 a2 a3, cs = [a0, a1, a2, a3] := by
    match cs, hlen with
    | [a0, a1, a2, a3], _ => exact ⟨a0, a1, a2, a3, rfl⟩
  obtain ⟨y0, y1, y2, y3, rfl⟩ : ∃ y0 y1 y2 y3, xs = [y0, y1, y2, y3] := by
    match xs, hxl with
    | [y0, y1, y2, y3], _ => exact ⟨y0, y1, y2, y3, rfl⟩
  have g0 : DataW.trod enc Tryd.prog W base sp hd k 3 [a0] = some y0 := by simpa [cellsFI] using hfl 0 _ rfl
  have g1 : DataW.trod enc Tryd.prog W base sp hd k 4 [a1] = some y1 := by simpa [cellsFB] using hfl 1 _ rfl
  have g2 : DataW.trod enc Tryd.prog W base sp hd k 4 [a2] = some y2 := by simpa [cellsFB] using hfl 2 _ rfl
  have g3 : DataW.trod enc Tryd.prog W base sp hd k 9 [a3] = some y3 := by simpa [cellsFS] using hfl 3 _ rfl
  simp only [List.map_cons, List.map_nil, Prod.mk.injEq, DataW.agg.injEq, List.cons.injEq, and_true] at hx
  obtain ⟨⟨e0, e1, e2, e3⟩, _⟩ := hx
  rw [trod_int_at Tryd.underlying3 g0 e0.symm, trod_bool_at Tryd.underlying4 g1 e1.symm, trod_bool_at Tryd.underlying4 g2 e2.symm, trod_str_at Tryd.underlying9 g3 e3.symm]
def u8ren : Go.Shelf.Ren := ⟨fun n => n, fun | 5 => 5 | 119 => 132 | 138 => 134 | 139 => 135 | n => n, fun | 3 => 2 | 4 => 3 | n => n⟩
theorem u8types : U8Types Tryd.prog u8ren := ⟨Tryd.underlying5, Tryd.underlying132, Tryd.underlying134, Tryd.underlying135⟩
theorem u8extra : U8Extra Tryd.prog u8ren := ⟨by kernel_rfl, by kernel_rfl, by kernel_rfl, by kernel_rfl, by kernel_rfl, by kernel_rfl, by kernel_rfl⟩
theorem gForms : Tryd.prog.globalNamed "millwright/ask.forms" = some 0 := by kernel_rfl
theorem gFormsType : (Tryd.prog.globals[0]?).map (·.type) = some 57 := by kernel_rfl
set_option maxRecDepth 100000 in
theorem fTab_of {W : World} {l : List (String × DataW Unit)} (h : laidMet Tryd.prog l W) (h1 : ("unicode/utf8.first", Lib.firstData) ∈ l) (h2 : ("unicode/utf8.acceptRanges", Lib.acceptData) ∈ l) (h3 : ("millwright/ask.forms", Rows.laid_millwright_ask_forms) ∈ l) : FTab W := by
  obtain ⟨g, t, cs, fuel, p, hg, hty, hvar, hd⟩ := Lib.laidMet.reads h h3
  obtain rfl := Option.some.inj (gForms.symm.trans hg)
  obtain rfl := Option.some.inj (gFormsType.symm.trans hty)
  have hat : ∀ k : Nat, 1 ≤ k → k ≤ 15 → W.cell? ⟨0, k * 4, none⟩ = some (.int .i64 (manyK k : Nat)) ∧ W.cell? ⟨0, k * 4 + 1, none⟩ = some (.bool (namedK k)) ∧ W.cell? ⟨0, k * 4 + 2, none⟩ = some (.bool (numK k)) ∧ W.cell? ⟨0, k * 4 + 3, none⟩ = some (.string ⟨(wordK k).toArray⟩) := fun k hk1 hk2 => by
    obtain ⟨fuel', d, q, hdi, he⟩ := Lib.array_elem Tryd.underlying57 hd k (by omega)
    rw [cellsForm] at he
    have hfin : (cs.toList.drop (k * 4)).take 4 = [.int .i64 (manyK k : Nat), .bool (namedK k), .bool (numK k), .string ⟨(wordK k).toArray⟩] := by
      have hd' : d = .agg [.lit (.int .i64 (manyK k : Nat)), .lit (.bool (namedK k)), .lit (.bool (numK k)), .lit (.string (wordK k))] := by
        rcases (by omega : k = 1 ∨ k = 2 ∨ k = 3 ∨ k = 4 ∨ k = 5 ∨ k = 6 ∨ k = 7 ∨ k = 8 ∨ k = 9 ∨ k = 10 ∨ k = 11 ∨ k = 12 ∨ k = 13 ∨ k = 14 ∨ k = 15) with rfl | rfl | rfl | rfl | rfl | rfl | rfl | rfl | rfl | rfl | rfl | rfl | rfl | rfl | rfl <;> exact (Option.some.inj hdi).symm
      rw [hd'] at he
      exact form_cells he
    have hc : ∀ r, r < 4 → W.cell? ⟨0, k * 4 + r, none⟩ = ([.int .i64 (manyK k : Nat), .bool (namedK k), .bool (numK k), .string ⟨(wordK k).toArray⟩] : List Value)[r]? := fun r hr => by
      rw [World.var?_cell hg hvar (k * 4 + r), ← hfin, List.getElem?_take, if_pos hr, List.getElem?_drop, Array.getElem?_toList]
    exact ⟨hc 0 (by decide), hc 1 (by decide), hc 2 (by decide), hc 3 (by decide)⟩
  exact ⟨utf8Tabs_of_readsT u8types u8extra (Lib.laidMet.reads h h1) (Lib.laidMet.reads h h2), lt_of_cell' (hat 1 (by decide) (by decide)).1, hat⟩
end Go.Proofs.YtcodncddaemhlaaDoor
