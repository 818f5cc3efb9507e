/- The law InferTells: for every argument it returns true, and each argument reads afterwards as it read before. Conditions: none beyond the form's own. -/
import Derived.Test.YtoandhhkmkgmaaaRows
import Derived.Test.YtoandhhkmkgmaaaLaw
import Derived.Test.YtoandhhkmkgmaaaMg5
import Derived.Test.YtoandhhkmkgmaaaMg27
import Derived.Test.YtoandhhkmkgmaaaMg20
import Derived.Test.YtoandhhkmkgmaaaMg46
import Derived.Deep.DeepHandedRow
import Derived.Lib.LaidTab
namespace Go.Proofs.Ytoandhhkmkgmaaa.inferTells
open Go.ChangeShapes Go.WideShapes Go.ChangeAt Go.RowKit Go.Deep

theorem own : ownKnob Try.prog.godebug = none := by kernel_rfl
theorem laidOut : laidOutB Try.prog = true := by kernel_rfl
theorem cells9 : Try.prog.cellsOf 9 = 1 := by kernel_rfl
theorem bytes9 : Try.prog.bytesOf 9 = 16 := by kernel_rfl
theorem rd43 : Try.prog.readableRec 43 = true ∧ decide (43 < Try.prog.types.size) = true := ⟨by kernel_rfl, by kernel_rfl⟩
theorem rd44 : Try.prog.readableRec 44 = true ∧ decide (44 < Try.prog.types.size) = true := ⟨by kernel_rfl, by kernel_rfl⟩
theorem rd32 : Try.prog.readableRec 32 = true ∧ decide (32 < Try.prog.types.size) = true := ⟨by kernel_rfl, by kernel_rfl⟩
theorem rd9 : Try.prog.readableRec 9 = true ∧ decide (9 < Try.prog.types.size) = true := ⟨by kernel_rfl, by kernel_rfl⟩
theorem readable : ∀ t ∈ Try.f4.params.toList, Try.prog.readableRec t = true ∧ t < Try.prog.types.size := by
  intro t ht
  rw [Try.params4] at ht
  simp at ht
  rcases ht with rfl | rfl | rfl | rfl
  · exact ⟨rd43.1, of_decide_eq_true rd43.2⟩
  · exact ⟨rd44.1, of_decide_eq_true rd44.2⟩
  · exact ⟨rd32.1, of_decide_eq_true rd32.2⟩
  · exact ⟨rd9.1, of_decide_eq_true rd9.2⟩
set_option maxRecDepth 100000 in
theorem contract (H : Type) (enc : TypeId × Value → H) (W : World) (base : Nat) (args : Array Value) (ds gs : List (DataW H)) (before : List MemPlace)
    (hval : ∀ (j : Nat) t v, Try.f4.params[j]? = some t → args[j]? = some v → Value.okWide Try.prog W .any base t v)
    (hW : DataW.Whole enc Try.prog Try.f4.params.toList Rows.inferTellsSpec.vars false W args.toList ds gs before)
    (hwt : (DataW.weightsEach Try.prog (Try.f4.params.toList ++ (OpenSpec.ofChange Rows.inferTellsSpec).bare.plain.varTypes Try.prog) (ds ++ gs)).all (· ≤ reachBytes) = true) :
    Calls Try.prog 4 args W fun e W' => ∃ v, e = .returned v ∧ Rows.inferTellsSpec.post enc Try.prog Try.f4 false true false false W args v W' := by
  have hW' := hW
  obtain ⟨p, q, hA0, hV, rfl, hfz, hnd⟩ := hW
  have hA : DataW.TrodAll enc Try.prog W 0 (fun _ => true) true Try.f4.params.toList args.toList ds p := hA0
  rw [Try.params4] at hA hval hwt
  obtain ⟨v0, vs0, d0, ds0, p0, q0, hargs, rfl, rfl, h0, r0⟩ := trodAll_cons hA
  obtain ⟨v1, vs1, d1, ds1, p1, q1, rfl, rfl, rfl, h1, r1⟩ := trodAll_cons r0
  obtain ⟨v2, vs2, d2, ds2, p2, q2, rfl, rfl, rfl, h2, r2⟩ := trodAll_cons r1
  obtain ⟨v3, vs3, d3, ds3, p3, q3, rfl, rfl, rfl, h3, r3⟩ := trodAll_cons r2
  obtain ⟨rfl, rfl, rfl⟩ := trodAll_nil r3
  obtain rfl : args = #[v0, v1, v2, v3] := by cases args; simp_all
  obtain ⟨rfl, rfl⟩ := trodVars_none hV
  obtain ⟨A0, L0, c0, rfl, hRA0, hL0⟩ := open_rules (hval 0 43 v0 rfl rfl) h0
  obtain ⟨A1, L1, c1, rfl, hP1, hQ1, hC1, hZ1⟩ := open_infs (hval 1 44 v1 rfl rfl) h1
  obtain ⟨A2, l2, c2, rfl, hl2, hb2, hn2, hs2⟩ := open_list_rd sv StrOk 16 Try.underlying32 cells9 bytes9 (fun h => trod_str Try.underlying9 h) hwt (j := 2) rfl rfl (hval 2 32 v2 rfl rfl) h2
  obtain ⟨s3, rfl, hb3⟩ := open_str hwt (j := 3) rfl rfl Try.underlying9 (hval 3 9 v3 rfl rfl) h3
  refine (inferTells_walk A0 c0 L0 A1 c1 L1 A2 c2 l2 s3 W hRA0 hL0 hP1 hQ1 hC1 hZ1 hl2 hb2 hs2 hb3).mono fun e W' ⟨he, hb⟩ => ?_
  subst he
  exact ⟨_, rfl, law_post laidOut readable rfl Try.underlying4 rfl rfl hW' hb⟩

noncomputable def laidWorld (os : Os) : World := World.holding Try.prog os ⟨#[], #[], []⟩
theorem laid_met (os : Os) : laidMet Try.prog Rows.inferTellsRow.laid ((laidWorld os).forCall (fun _ _ => 0) ⟨#[], #[.slice none 0 0, .slice none 0 0, .slice none 0 0, .string ⟨#[]⟩], []⟩).memory :=
  laidMet_of_run' 8 (by kernel_rfl) (by kernel_rfl)
theorem reads (os : Os) {H : Type} (enc : TypeId × Value → H) : ∃ places, DataW.whole enc Try.prog ((laidWorld os).forCall (fun _ _ => 0) ⟨#[], #[.slice none 0 0, .slice none 0 0, .slice none 0 0, .string ⟨#[]⟩], []⟩).memory Try.f4.params.toList Rows.inferTellsSpec.vars false (#[.slice none 0 0, .slice none 0 0, .slice none 0 0, .string ⟨#[]⟩] : Array Value).toList 8 = some ([.nil, .nil, .nil, .lit (.string [])], [], places) :=
  ⟨[], by kernel_rfl⟩

set_option maxRecDepth 100000 in
theorem lifted (os : Os) (started : os.Started) (H : Type) (enc : TypeId × Value → H) (F : Stop.Interp) :
    ReturnsInHanded {} Try.checked os 4 .any ((OpenSpec.ofChange Rows.inferTellsSpec).preRow enc Try.prog Try.f4 Rows.inferTellsRow.domain false Rows.inferTellsRow.laid) (((OpenSpec.ofChange Rows.inferTellsSpec).at F).post enc Try.prog Try.f4 false true false false) := by
  obtain ⟨places, hx⟩ := reads os enc
  refine returnsInHanded_of_row (C := Try.checked) (s := OpenSpec.ofChange Rows.inferTellsSpec) own started (by kernel_rfl) Try.func4
    (witness_row_at (enc := enc) (C := Try.checked) false (laidWorld os) #[.slice none 0 0, .slice none 0 0, .slice none 0 0, .string ⟨#[]⟩] rfl (by kernel_rfl) (by kernel_rfl) (by kernel_rfl)
      (OpenSpec.preRow_of_cond 8 hx (by kernel_rfl) (fun k hk => by cases hk) (by kernel_rfl) (laid_met os))) ?_
  intro W base args ds gs before hval hW _ _ hwt _ _ _
  exact contract H enc W base args ds gs before hval hW hwt

theorem proved : Rows.InferTellsSaid :=
  OpenClaim.holds_of_cond 4 Try.f4 rfl rfl rfl rfl rfl rfl rfl ⟨rfl, rfl, rfl, rfl, rfl⟩ rfl rfl rfl rfl rfl (by kernel_rfl) Try.func4 (by kernel_rfl)
    (of_decide_eq_true (by kernel_rfl)) (by unfold Func.isWrapper; first | (rw [if_pos (by decide +kernel)]; kernel_rfl) | (rw [if_neg (by decide +kernel)]; exact ⟨rfl, rfl⟩))
    (fun os started H enc _ F => by rw [OpenClaim.pre_eq_preRow]; exact lifted os started H enc F)
#print axioms proved
end Go.Proofs.Ytoandhhkmkgmaaa.inferTells
