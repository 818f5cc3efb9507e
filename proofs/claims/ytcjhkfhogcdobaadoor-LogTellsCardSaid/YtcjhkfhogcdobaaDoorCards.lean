/-
  DERIVED. GIVEN WITH THE SEED: THE CARDS: each row of YtcjhkfhogcdobaaDoorRows.lean that lists a variable, with what it lists TIED to the program's text (the seventh form; the later family's looks); each row that meets fmt, with fmt's text TOLD by the authors' own Lean function (tested against real Go, not proved from fmt's source: count such statements apart). THE CARD IS WHAT COUNTS. Prove the row's statement (the work); the ties are given (YtcjhkfhogcdobaaDoorTie.lean); close each card by the builder's one call (the guide's Derived/Test/ToyasCard.lean, 'card_holds'). Laid BY PROGRAM, IN A SANDBOX (cutbox-door.mjs). By AI agents, Wed Nov 11 2026. No macro, syntax, notation, axiom, sorry.
-/
import Derived.Test.YtcjhkfhogcdobaaDoorRows
import GoSem.ClaimSeven
namespace Go.Proofs.YtcjhkfhogcdobaaDoor
namespace Rows

/-- THE TIED CARD OF 'millwrightlaw.LogTells'. -/
def logTellsCard : Claim7 := { stood := { row := logTellsRow, standIns := [], harness := (true, "b178318d0453e11aad51b4f38224ed623aed0397634b847cc823b3c32ea2e8df"), looks := true }, kinds := [], alts := [], laidByText := true, laidKinds := [.data, .data, .data, .data, .sentinel, .sentinel, .pinned], laidTests := true, laidLooks := .later }
def LogTellsCardSaid : Prop := Claim7.holds Tryd.pinned (.plain (OpenSpec.ofChange logTellsSpec)) logTellsCard

/-- THE SECOND FORM's CARD OF 'millwrightlaw.LogTells'. -/
def logTellsUptoCard : Claim7 := { stood := { row := logTellsUptoRow, standIns := [], harness := (true, "b178318d0453e11aad51b4f38224ed623aed0397634b847cc823b3c32ea2e8df"), looks := true }, kinds := [], alts := [], laidByText := true, laidKinds := [.data, .data, .data, .data, .sentinel, .sentinel, .pinned], laidTests := true, laidLooks := .later }
def LogTellsUptoCardSaid : Prop := Claim7.holds Tryd.pinned (.plain (OpenSpec.upto logTellsSpec)) logTellsUptoCard
end Rows
end Go.Proofs.YtcjhkfhogcdobaaDoor
