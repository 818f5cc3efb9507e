/-
  DERIVED. GIVEN WITH THE SEED: THE CARDS: each row of YtkcalnjapmpcaaaDoorRows.lean that lists a variable, with what it lists TIED to the program's text (the seventh form; the later family's looks); each row that meets fmt, with fmt's text TOLD by the authors' own Lean function (tested against real Go, not proved from fmt's source: count such statements apart). THE CARD IS WHAT COUNTS. Prove the row's statement (the work); the ties are given (YtkcalnjapmpcaaaDoorTie.lean); close each card by the builder's one call (the guide's Derived/Test/ToyasCard.lean, 'card_holds'). Laid BY PROGRAM, IN A SANDBOX (cutbox-door.mjs). By AI agents, Wed Nov 11 2026. No macro, syntax, notation, axiom, sorry.
-/
import Derived.Test.YtkcalnjapmpcaaaDoorRows
import GoSem.ClaimSeven
namespace Go.Proofs.YtkcalnjapmpcaaaDoor
namespace Rows

/-- THE TIED CARD OF 'millwrightlaw.BitsTells'. -/
def bitsTellsCard : Claim7 := { stood := { row := bitsTellsRow, standIns := [], harness := (true, "d9f4c6784397a5d1abaf08f3ca779b76437d2115bd1ec76d171e2b83b0fa424c"), looks := false }, kinds := [], alts := [], laidByText := true, laidKinds := [.data], laidTests := true, laidLooks := .later }
def BitsTellsCardSaid : Prop := Claim7.holds Tryd.pinned (.plain (OpenSpec.ofChange bitsTellsSpec)) bitsTellsCard

/-- THE TIED CARD OF 'millwrightlaw.BitsFinds'. -/
def bitsFindsCard : Claim7 := { stood := { row := bitsFindsRow, standIns := [], harness := (true, "d9f4c6784397a5d1abaf08f3ca779b76437d2115bd1ec76d171e2b83b0fa424c"), looks := false }, kinds := [], alts := [], laidByText := true, laidKinds := [.data], laidTests := true, laidLooks := .later }
def BitsFindsCardSaid : Prop := Claim7.holds Tryd.pinned (.plain (OpenSpec.ofChange bitsFindsSpec)) bitsFindsCard

/-- THE TIED CARD OF 'millwrightlaw.ReachTells'. -/
def reachTellsCard : Claim7 := { stood := { row := reachTellsRow, standIns := [], harness := (true, "d9f4c6784397a5d1abaf08f3ca779b76437d2115bd1ec76d171e2b83b0fa424c"), looks := false }, kinds := [], alts := [], laidByText := true, laidKinds := [.data], laidTests := true, laidLooks := .later }
def ReachTellsCardSaid : Prop := Claim7.holds Tryd.pinned (.plain (OpenSpec.ofChange reachTellsSpec)) reachTellsCard

/-- THE SECOND FORM's CARD OF 'millwrightlaw.BitsTells'. -/
def bitsTellsUptoCard : Claim7 := { stood := { row := bitsTellsUptoRow, standIns := [], harness := (true, "d9f4c6784397a5d1abaf08f3ca779b76437d2115bd1ec76d171e2b83b0fa424c"), looks := false }, kinds := [], alts := [], laidByText := true, laidKinds := [.data], laidTests := true, laidLooks := .later }
def BitsTellsUptoCardSaid : Prop := Claim7.holds Tryd.pinned (.plain (OpenSpec.upto bitsTellsSpec)) bitsTellsUptoCard

/-- THE SECOND FORM's CARD OF 'millwrightlaw.BitsFinds'. -/
def bitsFindsUptoCard : Claim7 := { stood := { row := bitsFindsUptoRow, standIns := [], harness := (true, "d9f4c6784397a5d1abaf08f3ca779b76437d2115bd1ec76d171e2b83b0fa424c"), looks := false }, kinds := [], alts := [], laidByText := true, laidKinds := [.data], laidTests := true, laidLooks := .later }
def BitsFindsUptoCardSaid : Prop := Claim7.holds Tryd.pinned (.plain (OpenSpec.upto bitsFindsSpec)) bitsFindsUptoCard

/-- THE SECOND FORM's CARD OF 'millwrightlaw.ReachTells'. -/
def reachTellsUptoCard : Claim7 := { stood := { row := reachTellsUptoRow, standIns := [], harness := (true, "d9f4c6784397a5d1abaf08f3ca779b76437d2115bd1ec76d171e2b83b0fa424c"), looks := false }, kinds := [], alts := [], laidByText := true, laidKinds := [.data], laidTests := true, laidLooks := .later }
def ReachTellsUptoCardSaid : Prop := Claim7.holds Tryd.pinned (.plain (OpenSpec.upto reachTellsSpec)) reachTellsUptoCard
end Rows
end Go.Proofs.YtkcalnjapmpcaaaDoor
