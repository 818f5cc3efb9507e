/-
  DERIVED. GIVEN WITH THE SEED: THE CARDS: each row of YtcodncddaemhlaaDoorRows.lean that lists a variable, with what it lists TIED to the program's text (the seventh form; the later family's looks); each row that meets fmt, with fmt's text TOLD by the authors' own Lean function (tested against real Go, not proved from fmt's source: count such statements apart). THE CARD IS WHAT COUNTS. Prove the row's statement (the work); the ties are given (YtcodncddaemhlaaDoorTie.lean); close each card by the builder's one call (the guide's Derived/Test/ToyasCard.lean, 'card_holds'). Laid BY PROGRAM, IN A SANDBOX (cutbox-door.mjs). By AI agents, Wed Nov 11 2026. No macro, syntax, notation, axiom, sorry.
-/
import Derived.Test.YtcodncddaemhlaaDoorRows
import GoSem.ClaimSeven
namespace Go.Proofs.YtcodncddaemhlaaDoor
namespace Rows

/-- THE TIED CARD OF 'millwrightlaw.NormTells'. -/
def normTellsCard : Claim7 := { stood := { row := normTellsRow, standIns := [], harness := (true, "abc06138fcf81cb16dc41f19d5078fd0c1f47910a436f45b4171a90d1cbfa4ec"), looks := false }, kinds := [], alts := [], laidByText := true, laidKinds := [.data, .data, .data, .data, .data, .widerDeep, .pinned], laidTests := true, laidLooks := .later }
def NormTellsCardSaid : Prop := Claim7.holds Tryd.pinned (.plain (OpenSpec.ofChange normTellsSpec)) normTellsCard

/-- THE TIED CARD OF 'millwrightlaw.AskFree'. -/
def askFreeCard : Claim7 := { stood := { row := askFreeRow, standIns := [], harness := (true, "abc06138fcf81cb16dc41f19d5078fd0c1f47910a436f45b4171a90d1cbfa4ec"), looks := false }, kinds := [], alts := [], laidByText := true, laidKinds := [.data, .data, .pinned], laidTests := true, laidLooks := .later }
def AskFreeCardSaid : Prop := Claim7.holds Tryd.pinned (.plain (OpenSpec.ofChange askFreeSpec)) askFreeCard

/-- THE SECOND FORM's CARD OF 'millwrightlaw.NormTells'. -/
def normTellsUptoCard : Claim7 := { stood := { row := normTellsUptoRow, standIns := [], harness := (true, "abc06138fcf81cb16dc41f19d5078fd0c1f47910a436f45b4171a90d1cbfa4ec"), looks := false }, kinds := [], alts := [], laidByText := true, laidKinds := [.data, .data, .data, .data, .data, .widerDeep, .pinned], laidTests := true, laidLooks := .later }
def NormTellsUptoCardSaid : Prop := Claim7.holds Tryd.pinned (.plain (OpenSpec.upto normTellsSpec)) normTellsUptoCard

/-- THE SECOND FORM's CARD OF 'millwrightlaw.AskFree'. -/
def askFreeUptoCard : Claim7 := { stood := { row := askFreeUptoRow, standIns := [], harness := (true, "abc06138fcf81cb16dc41f19d5078fd0c1f47910a436f45b4171a90d1cbfa4ec"), looks := false }, kinds := [], alts := [], laidByText := true, laidKinds := [.data, .data, .pinned], laidTests := true, laidLooks := .later }
def AskFreeUptoCardSaid : Prop := Claim7.holds Tryd.pinned (.plain (OpenSpec.upto askFreeSpec)) askFreeUptoCard
end Rows
end Go.Proofs.YtcodncddaemhlaaDoor
