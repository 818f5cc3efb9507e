/-
  DERIVED. GIVEN WITH THE SEED: THE CARDS: each row of YtecbdamimnllnaaDoorRows.lean that lists a variable, with what it lists TIED to the program's text (the seventh form; the later family's looks); each row that meets fmt, with fmt's text TOLD by the authors' own Lean function (tested against real Go, not proved from fmt's source: count such statements apart). THE CARD IS WHAT COUNTS. Prove the row's statement (the work); the ties are given (YtecbdamimnllnaaDoorTie.lean); close each card by the builder's one call (the guide's Derived/Test/ToyasCard.lean, 'card_holds'). Laid BY PROGRAM, IN A SANDBOX (cutbox-door.mjs). By AI agents, Wed Nov 11 2026. No macro, syntax, notation, axiom, sorry.
-/
import Derived.Test.YtecbdamimnllnaaDoorRows
import GoSem.ClaimSeven
namespace Go.Proofs.YtecbdamimnllnaaDoor
namespace Rows

/-- THE TIED CARD OF 'millwrightlaw.WhyTells'. -/
def whyTellsCard : Claim7 := { stood := { row := whyTellsRow, standIns := [], harness := (true, "9fcef4575686a1fd10dc98af97d3ae3d851b1621125ce769908e1c06875456b0"), looks := false }, kinds := [], alts := [], laidByText := true, laidKinds := [.data, .data], laidTests := true, laidLooks := .later }
def WhyTellsCardSaid : Prop := Claim7.holds Tryd.pinned (.plain (OpenSpec.ofChange whyTellsSpec)) whyTellsCard

/-- THE SECOND FORM's CARD OF 'millwrightlaw.WhyTells'. -/
def whyTellsUptoCard : Claim7 := { stood := { row := whyTellsUptoRow, standIns := [], harness := (true, "9fcef4575686a1fd10dc98af97d3ae3d851b1621125ce769908e1c06875456b0"), looks := false }, kinds := [], alts := [], laidByText := true, laidKinds := [.data, .data], laidTests := true, laidLooks := .later }
def WhyTellsUptoCardSaid : Prop := Claim7.holds Tryd.pinned (.plain (OpenSpec.upto whyTellsSpec)) whyTellsUptoCard
end Rows
end Go.Proofs.YtecbdamimnllnaaDoor
