/- A made build that comes in: opened; its row is no longer than the reading's bulk. No condition. -/
import Derived.Test.YtiechbaknolimaaDoorOpenG
import Derived.Test.YtiechbaknolimaaDoorLog2
namespace Go.Proofs.YtiechbaknolimaaDoor
open Go.RowKit Go.WideShapes Go.ChangeShapes Go.ChangeAt Go.Deep

theorem cellsM : Tryd.prog.cellsOf 58 = 2 := by kernel_rfl
theorem cellsRs : Tryd.prog.cellsOf 56 = 1 := by kernel_rfl
set_option maxRecDepth 100000 in
theorem open_made {H : Type} {enc : TypeId × Value → H} {W : World} {base : Nat} {v : Value} {d : DataW H} {ps : List MemPlace}
    (hok : Value.okWide Tryd.prog W .any base 58 v) (h : DataW.Trod enc Tryd.prog W 0 (fun _ => true) true 58 v d ps) :
    ∃ (AR : Option Addr) (R : List Int) (cR : Nat) (AT : Option Addr) (T : List Int) (cT : Nat), v = mv AR R.length cR AT T.length cT ∧ Rd W AR (R.map (.int .i64)) ∧ Rd W AT (T.map (.int .i64)) ∧ T.length ≤ 9223372036854775807 ∧ R.length ≤ Rows.uptoBulk d := by
  obtain ⟨cs, rfl, hsz⟩ := okWide_struct Tryd.underlying58 hok
  obtain ⟨fuel, hf⟩ := h
  rw [cellsM] at hsz
  obtain ⟨a0, a1, rfl⟩ := arr2 hsz
  obtain ⟨y0, y1, n, hx, hlen, h0, h1⟩ := trod_struct2 Tryd.underlying58 hf
  have g0 : DataW.trod enc Tryd.prog W 0 (fun _ => true) true n 56 [a0] = some y0 := by simpa [cellsRs, Value.cells] using h0
  have g1 : DataW.trod enc Tryd.prog W 0 (fun _ => true) true n 46 [a1] = some y1 := by simpa [cellsTs, Value.cells] using h1
  obtain ⟨AR, R, cR, e1, hR, _, _⟩ := trod_list_rd (.int .i64) (fun z => (Lit.int .i64 z).wf = true) Tryd.underlying56 cellsI (fun h => trod_num Tryd.underlying3 h) g0
  obtain ⟨AT, T, cT, e2, hT, hTb, _⟩ := trod_list_rd (.int .i64) (fun z => (Lit.int .i64 z).wf = true) Tryd.underlying46 cellsT (fun h => trod_num Tryd.underlying2 h) g1
  injection e1 with e1 _
  injection e2 with e2 _
  subst e1 e2
  have hb : R.length ≤ Rows.uptoBulk y0.1 := len_bulk (enc := enc) (W := W) (ps := y0.2) Tryd.underlying56 cellsI ⟨n, g0⟩
  have hd : d = .agg [y0.1, y1.1] := congrArg Prod.fst hx
  refine ⟨AR, R, cR, AT, T, cT, rfl, hR, hT, hTb, ?_⟩
  rw [hd]
  simp only [Rows.uptoBulk, Rows.uptoBulkAll]
  omega
end Go.Proofs.YtiechbaknolimaaDoor
