/-
  DERIVED. GIVEN WITH THE SEED: THE CARDS: each row of YtoandhhkmkgmaaaGreatDoorRows.lean that lists a variable, with what it lists TIED to the program's text (the seventh form; the later family's looks); each row that meets fmt, with fmt's text TOLD by the authors' own Lean function (tested against real Go, not proved from fmt's source: count such statements apart). THE CARD IS WHAT COUNTS. Prove the row's statement (the work); the ties are given (YtoandhhkmkgmaaaGreatDoorTie.lean); close each card by the builder's one call (the guide's Derived/Test/ToyasCard.lean, 'card_holds'). Laid BY PROGRAM, IN A SANDBOX (cutbox-door.mjs). By AI agents, Wed Nov 11 2026. No macro, syntax, notation, axiom, sorry.
-/
import Derived.Test.YtoandhhkmkgmaaaGreatDoorRows
import GoSem.ClaimSeven
namespace Go.Proofs.YtoandhhkmkgmaaaGreatDoor
namespace Rows

/-- THE TIED CARD OF 'millwrightlaw.FileTells'. -/
def fileTellsCard : Claim7 := { stood := { row := fileTellsRow, standIns := [], harness := (true, "591bdf941905f67a4ae02b9cda26be92f83888d5286bafca376f92ee9c446f15"), looks := false }, kinds := [], alts := [], laidByText := true, laidKinds := [.data, .pinned], laidTests := true, laidLooks := .later }
def FileTellsCardSaid : Prop := Claim7.holds Tryz.pinned (.plain (OpenSpec.ofChange fileTellsSpec)) fileTellsCard

/-- THE TIED CARD OF 'millwrightlaw.DotTells'. -/
def dotTellsCard : Claim7 := { stood := { row := dotTellsRow, standIns := [], harness := (true, "591bdf941905f67a4ae02b9cda26be92f83888d5286bafca376f92ee9c446f15"), looks := false }, kinds := [], alts := [], laidByText := true, laidKinds := [.data, .data, .pinned], laidTests := true, laidLooks := .later }
def DotTellsCardSaid : Prop := Claim7.holds Tryz.pinned (.plain (OpenSpec.ofChange dotTellsSpec)) dotTellsCard

/-- THE TIED CARD OF 'millwrightlaw.FileLines'. -/
def fileLinesCard : Claim7 := { stood := { row := fileLinesRow, standIns := [], harness := (true, "591bdf941905f67a4ae02b9cda26be92f83888d5286bafca376f92ee9c446f15"), looks := false }, kinds := [], alts := [], laidByText := true, laidKinds := [.data, .pinned], laidTests := true, laidLooks := .later }
def FileLinesCardSaid : Prop := Claim7.holds Tryz.pinned (.plain (OpenSpec.ofChange fileLinesSpec)) fileLinesCard

/-- THE TIED CARD OF 'millwrightlaw.GraphMakes'. -/
def graphMakesCard : Claim7 := { stood := { row := graphMakesRow, standIns := [], harness := (true, "591bdf941905f67a4ae02b9cda26be92f83888d5286bafca376f92ee9c446f15"), looks := false }, kinds := [], alts := [], laidByText := true, laidKinds := [.data, .data, .pinned], laidTests := true, laidLooks := .later }
def GraphMakesCardSaid : Prop := Claim7.holds Tryz.pinned (.plain (OpenSpec.ofChange graphMakesSpec)) graphMakesCard

/-- THE SECOND FORM's CARD OF 'millwrightlaw.FileTells'. -/
def fileTellsUptoCard : Claim7 := { stood := { row := fileTellsUptoRow, standIns := [], harness := (true, "591bdf941905f67a4ae02b9cda26be92f83888d5286bafca376f92ee9c446f15"), looks := false }, kinds := [], alts := [], laidByText := true, laidKinds := [.data, .pinned], laidTests := true, laidLooks := .later }
def FileTellsUptoCardSaid : Prop := Claim7.holds Tryz.pinned (.plain (OpenSpec.upto fileTellsSpec)) fileTellsUptoCard

/-- THE SECOND FORM's CARD OF 'millwrightlaw.DotTells'. -/
def dotTellsUptoCard : Claim7 := { stood := { row := dotTellsUptoRow, standIns := [], harness := (true, "591bdf941905f67a4ae02b9cda26be92f83888d5286bafca376f92ee9c446f15"), looks := false }, kinds := [], alts := [], laidByText := true, laidKinds := [.data, .data, .pinned], laidTests := true, laidLooks := .later }
def DotTellsUptoCardSaid : Prop := Claim7.holds Tryz.pinned (.plain (OpenSpec.upto dotTellsSpec)) dotTellsUptoCard

/-- THE SECOND FORM's CARD OF 'millwrightlaw.FileLines'. -/
def fileLinesUptoCard : Claim7 := { stood := { row := fileLinesUptoRow, standIns := [], harness := (true, "591bdf941905f67a4ae02b9cda26be92f83888d5286bafca376f92ee9c446f15"), looks := false }, kinds := [], alts := [], laidByText := true, laidKinds := [.data, .pinned], laidTests := true, laidLooks := .later }
def FileLinesUptoCardSaid : Prop := Claim7.holds Tryz.pinned (.plain (OpenSpec.upto fileLinesSpec)) fileLinesUptoCard

/-- THE SECOND FORM's CARD OF 'millwrightlaw.GraphMakes'. -/
def graphMakesUptoCard : Claim7 := { stood := { row := graphMakesUptoRow, standIns := [], harness := (true, "591bdf941905f67a4ae02b9cda26be92f83888d5286bafca376f92ee9c446f15"), looks := false }, kinds := [], alts := [], laidByText := true, laidKinds := [.data, .data, .pinned], laidTests := true, laidLooks := .later }
def GraphMakesUptoCardSaid : Prop := Claim7.holds Tryz.pinned (.plain (OpenSpec.upto graphMakesSpec)) graphMakesUptoCard
end Rows
end Go.Proofs.YtoandhhkmkgmaaaGreatDoor
