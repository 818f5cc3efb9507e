/-
  DERIVED. GIVEN WITH THE SEED: THE CARDS: each row of YtiechbaknolimaaDoorRows.lean that lists a variable, with what it lists TIED to the program's text (the seventh form; the later family's looks); each row that meets fmt, with fmt's text TOLD by the authors' own Lean function (tested against real Go, not proved from fmt's source: count such statements apart). THE CARD IS WHAT COUNTS. Prove the row's statement (the work); the ties are given (YtiechbaknolimaaDoorTie.lean); close each card by the builder's one call (the guide's Derived/Test/ToyasCard.lean, 'card_holds'). Laid BY PROGRAM, IN A SANDBOX (cutbox-door.mjs). By AI agents, Wed Nov 11 2026. No macro, syntax, notation, axiom, sorry.
-/
import Derived.Test.YtiechbaknolimaaDoorRows
import GoSem.ClaimSeven
namespace Go.Proofs.YtiechbaknolimaaDoor
namespace Rows

/-- THE TIED CARD OF 'millwrightlaw.GraphTells'. -/
def graphTellsCard : Claim7 := { stood := { row := graphTellsRow, standIns := [], harness := (true, "66cc2cc6e5256aeba0008d3af9d62812bf95081bd255a20222c2060639833c6d"), looks := false }, kinds := [], alts := [], laidByText := true, laidKinds := [.data], laidTests := true, laidLooks := .later }
def GraphTellsCardSaid : Prop := Claim7.holds Tryd.pinned (.plain (OpenSpec.ofChange graphTellsSpec)) graphTellsCard

/-- THE TIED CARD OF 'millwrightlaw.StaleTells'. -/
def staleTellsCard : Claim7 := { stood := { row := staleTellsRow, standIns := [], harness := (true, "66cc2cc6e5256aeba0008d3af9d62812bf95081bd255a20222c2060639833c6d"), looks := false }, kinds := [], alts := [], laidByText := true, laidKinds := [.data], laidTests := true, laidLooks := .later }
def StaleTellsCardSaid : Prop := Claim7.holds Tryd.pinned (.plain (OpenSpec.ofChange staleTellsSpec)) staleTellsCard

/-- THE TIED CARD OF 'millwrightlaw.BuildTells'. -/
def buildTellsCard : Claim7 := { stood := { row := buildTellsRow, standIns := [], harness := (true, "66cc2cc6e5256aeba0008d3af9d62812bf95081bd255a20222c2060639833c6d"), looks := false }, kinds := [], alts := [], laidByText := true, laidKinds := [.data], laidTests := true, laidLooks := .later }
def BuildTellsCardSaid : Prop := Claim7.holds Tryd.pinned (.plain (OpenSpec.ofChange buildTellsSpec)) buildTellsCard

/-- THE SECOND FORM's CARD OF 'millwrightlaw.GraphTells'. -/
def graphTellsUptoCard : Claim7 := { stood := { row := graphTellsUptoRow, standIns := [], harness := (true, "66cc2cc6e5256aeba0008d3af9d62812bf95081bd255a20222c2060639833c6d"), looks := false }, kinds := [], alts := [], laidByText := true, laidKinds := [.data], laidTests := true, laidLooks := .later }
def GraphTellsUptoCardSaid : Prop := Claim7.holds Tryd.pinned (.plain (OpenSpec.upto graphTellsSpec)) graphTellsUptoCard

/-- THE SECOND FORM's CARD OF 'millwrightlaw.StaleTells'. -/
def staleTellsUptoCard : Claim7 := { stood := { row := staleTellsUptoRow, standIns := [], harness := (true, "66cc2cc6e5256aeba0008d3af9d62812bf95081bd255a20222c2060639833c6d"), looks := false }, kinds := [], alts := [], laidByText := true, laidKinds := [.data], laidTests := true, laidLooks := .later }
def StaleTellsUptoCardSaid : Prop := Claim7.holds Tryd.pinned (.plain (OpenSpec.upto staleTellsSpec)) staleTellsUptoCard

/-- THE SECOND FORM's CARD OF 'millwrightlaw.BuildTells'. -/
def buildTellsUptoCard : Claim7 := { stood := { row := buildTellsUptoRow, standIns := [], harness := (true, "66cc2cc6e5256aeba0008d3af9d62812bf95081bd255a20222c2060639833c6d"), looks := false }, kinds := [], alts := [], laidByText := true, laidKinds := [.data], laidTests := true, laidLooks := .later }
def BuildTellsUptoCardSaid : Prop := Claim7.holds Tryd.pinned (.plain (OpenSpec.upto buildTellsSpec)) buildTellsUptoCard
end Rows
end Go.Proofs.YtiechbaknolimaaDoor
