/-
  DERIVED. GIVEN WITH THE SEED: THE CARDS: each row of YtonmkmghpiagjaaDoorRows.lean that lists a variable, with what it lists TIED to the program's text (the seventh form; the later family's looks); each row that meets fmt, with fmt's text TOLD by the authors' own Lean function (tested against real Go, not proved from fmt's source: count such statements apart). THE CARD IS WHAT COUNTS. Prove the row's statement (the work); the ties are given (YtonmkmghpiagjaaDoorTie.lean); close each card by the builder's one call (the guide's Derived/Test/ToyasCard.lean, 'card_holds'). Laid BY PROGRAM, IN A SANDBOX (cutbox-door.mjs). By AI agents, Wed Nov 11 2026. No macro, syntax, notation, axiom, sorry.
-/
import Derived.Test.YtonmkmghpiagjaaDoorRows
import GoSem.ClaimSeven
namespace Go.Proofs.YtonmkmghpiagjaaDoor
namespace Rows

/-- THE TIED CARD OF 'millwrightlaw.WayTells'. -/
def wayTellsCard : Claim7 := { stood := { row := wayTellsRow, standIns := [], harness := (true, "04cf8c20a3388b348729f497a861f33f0b3eca21895c6b9e88fb854e2a846bd2"), looks := true }, kinds := [], alts := [], laidByText := true, laidKinds := [.data], laidTests := true, laidLooks := .later }
def WayTellsCardSaid : Prop := Claim7.holds Tryd.pinned (.plain (OpenSpec.ofChange wayTellsSpec)) wayTellsCard

/-- THE TIED CARD OF 'millwrightlaw.CutTells'. -/
def cutTellsCard : Claim7 := { stood := { row := cutTellsRow, standIns := [], harness := (true, "04cf8c20a3388b348729f497a861f33f0b3eca21895c6b9e88fb854e2a846bd2"), looks := true }, kinds := [], alts := [], laidByText := true, laidKinds := [.data], laidTests := true, laidLooks := .later }
def CutTellsCardSaid : Prop := Claim7.holds Tryd.pinned (.plain (OpenSpec.ofChange cutTellsSpec)) cutTellsCard

/-- THE TIED CARD OF 'millwrightlaw.ChainTells'. -/
def chainTellsCard : Claim7 := { stood := { row := chainTellsRow, standIns := [], harness := (true, "04cf8c20a3388b348729f497a861f33f0b3eca21895c6b9e88fb854e2a846bd2"), looks := true }, kinds := [], alts := [], laidByText := true, laidKinds := [.data], laidTests := true, laidLooks := .later }
def ChainTellsCardSaid : Prop := Claim7.holds Tryd.pinned (.plain (OpenSpec.ofChange chainTellsSpec)) chainTellsCard

/-- THE TIED CARD OF 'millwrightlaw.CostTells'. -/
def costTellsCard : Claim7 := { stood := { row := costTellsRow, standIns := [], harness := (true, "04cf8c20a3388b348729f497a861f33f0b3eca21895c6b9e88fb854e2a846bd2"), looks := true }, kinds := [], alts := [], laidByText := true, laidKinds := [.data], laidTests := true, laidLooks := .later }
def CostTellsCardSaid : Prop := Claim7.holds Tryd.pinned (.plain (OpenSpec.ofChange costTellsSpec)) costTellsCard

/-- THE TIED CARD OF 'millwrightlaw.DomTells'. -/
def domTellsCard : Claim7 := { stood := { row := domTellsRow, standIns := [], harness := (true, "04cf8c20a3388b348729f497a861f33f0b3eca21895c6b9e88fb854e2a846bd2"), looks := true }, kinds := [], alts := [], laidByText := true, laidKinds := [.data], laidTests := true, laidLooks := .later }
def DomTellsCardSaid : Prop := Claim7.holds Tryd.pinned (.plain (OpenSpec.ofChange domTellsSpec)) domTellsCard

/-- THE TIED CARD OF 'millwrightlaw.SpanReads'. -/
def spanReadsCard : Claim7 := { stood := { row := spanReadsRow, standIns := [], harness := (true, "04cf8c20a3388b348729f497a861f33f0b3eca21895c6b9e88fb854e2a846bd2"), looks := true }, kinds := [], alts := [], laidByText := true, laidKinds := [.data, .data, .data, .sentinel, .sentinel], laidTests := true, laidLooks := .later }
def SpanReadsCardSaid : Prop := Claim7.holds Tryd.pinned (.plain (OpenSpec.ofChange spanReadsSpec)) spanReadsCard

/-- THE TIED CARD OF 'millwrightlaw.KnotTells'. -/
def knotTellsCard : Claim7 := { stood := { row := knotTellsRow, standIns := [], harness := (true, "04cf8c20a3388b348729f497a861f33f0b3eca21895c6b9e88fb854e2a846bd2"), looks := true }, kinds := [], alts := [], laidByText := true, laidKinds := [.data], laidTests := true, laidLooks := .later }
def KnotTellsCardSaid : Prop := Claim7.holds Tryd.pinned (.plain (OpenSpec.ofChange knotTellsSpec)) knotTellsCard

/-- THE SECOND FORM's CARD OF 'millwrightlaw.WayTells'. -/
def wayTellsUptoCard : Claim7 := { stood := { row := wayTellsUptoRow, standIns := [], harness := (true, "04cf8c20a3388b348729f497a861f33f0b3eca21895c6b9e88fb854e2a846bd2"), looks := true }, kinds := [], alts := [], laidByText := true, laidKinds := [.data], laidTests := true, laidLooks := .later }
def WayTellsUptoCardSaid : Prop := Claim7.holds Tryd.pinned (.plain (OpenSpec.upto wayTellsSpec)) wayTellsUptoCard

/-- THE SECOND FORM's CARD OF 'millwrightlaw.CutTells'. -/
def cutTellsUptoCard : Claim7 := { stood := { row := cutTellsUptoRow, standIns := [], harness := (true, "04cf8c20a3388b348729f497a861f33f0b3eca21895c6b9e88fb854e2a846bd2"), looks := true }, kinds := [], alts := [], laidByText := true, laidKinds := [.data], laidTests := true, laidLooks := .later }
def CutTellsUptoCardSaid : Prop := Claim7.holds Tryd.pinned (.plain (OpenSpec.upto cutTellsSpec)) cutTellsUptoCard

/-- THE SECOND FORM's CARD OF 'millwrightlaw.ChainTells'. -/
def chainTellsUptoCard : Claim7 := { stood := { row := chainTellsUptoRow, standIns := [], harness := (true, "04cf8c20a3388b348729f497a861f33f0b3eca21895c6b9e88fb854e2a846bd2"), looks := true }, kinds := [], alts := [], laidByText := true, laidKinds := [.data], laidTests := true, laidLooks := .later }
def ChainTellsUptoCardSaid : Prop := Claim7.holds Tryd.pinned (.plain (OpenSpec.upto chainTellsSpec)) chainTellsUptoCard

/-- THE SECOND FORM's CARD OF 'millwrightlaw.CostTells'. -/
def costTellsUptoCard : Claim7 := { stood := { row := costTellsUptoRow, standIns := [], harness := (true, "04cf8c20a3388b348729f497a861f33f0b3eca21895c6b9e88fb854e2a846bd2"), looks := true }, kinds := [], alts := [], laidByText := true, laidKinds := [.data], laidTests := true, laidLooks := .later }
def CostTellsUptoCardSaid : Prop := Claim7.holds Tryd.pinned (.plain (OpenSpec.upto costTellsSpec)) costTellsUptoCard

/-- THE SECOND FORM's CARD OF 'millwrightlaw.DomTells'. -/
def domTellsUptoCard : Claim7 := { stood := { row := domTellsUptoRow, standIns := [], harness := (true, "04cf8c20a3388b348729f497a861f33f0b3eca21895c6b9e88fb854e2a846bd2"), looks := true }, kinds := [], alts := [], laidByText := true, laidKinds := [.data], laidTests := true, laidLooks := .later }
def DomTellsUptoCardSaid : Prop := Claim7.holds Tryd.pinned (.plain (OpenSpec.upto domTellsSpec)) domTellsUptoCard

/-- THE SECOND FORM's CARD OF 'millwrightlaw.SpanReads'. -/
def spanReadsUptoCard : Claim7 := { stood := { row := spanReadsUptoRow, standIns := [], harness := (true, "04cf8c20a3388b348729f497a861f33f0b3eca21895c6b9e88fb854e2a846bd2"), looks := true }, kinds := [], alts := [], laidByText := true, laidKinds := [.data, .data, .data, .sentinel, .sentinel], laidTests := true, laidLooks := .later }
def SpanReadsUptoCardSaid : Prop := Claim7.holds Tryd.pinned (.plain (OpenSpec.upto spanReadsSpec)) spanReadsUptoCard

/-- THE SECOND FORM's CARD OF 'millwrightlaw.KnotTells'. -/
def knotTellsUptoCard : Claim7 := { stood := { row := knotTellsUptoRow, standIns := [], harness := (true, "04cf8c20a3388b348729f497a861f33f0b3eca21895c6b9e88fb854e2a846bd2"), looks := true }, kinds := [], alts := [], laidByText := true, laidKinds := [.data], laidTests := true, laidLooks := .later }
def KnotTellsUptoCardSaid : Prop := Claim7.holds Tryd.pinned (.plain (OpenSpec.upto knotTellsSpec)) knotTellsUptoCard
end Rows
end Go.Proofs.YtonmkmghpiagjaaDoor
